/- several texts in one: norm.ready's methods., container/heap over norm.ready., container/heap over norm.ready: down, Pop (printed by gen_heap.py). -/
import Derived.Test.YtaalinhkikmfaaaMg3
import Derived.Test.YtaalinhkikmfaaaE3
import Derived.Test.YtaalinhkikmfaaaSe
import Derived.Shelf.Abstract
section
set_option linter.unusedSimpArgs false
set_option linter.unusedVariables false
namespace Go.Proofs.Ytaalinhkikmfaaa
open Go.RowKit

def acl (a : Nat → Nat) (n : Nat) : List Value := (List.range n).map fun i => .int .i64 (a i : Nat)
theorem acl_length (a : Nat → Nat) (n : Nat) : (acl a n).length = n := by simp [acl]
theorem acl_get (a : Nat → Nat) {n i : Nat} (h : i < n) : (acl a n)[i]? = some (.int .i64 (a i : Nat)) := by simp [acl, h]
theorem acl_one (a : Nat → Nat) (n : Nat) : ∀ u ∈ acl a n, u.oneCell' = true := by
  intro u hu
  obtain ⟨i, _, rfl⟩ := List.mem_map.1 hu
  rfl
theorem acl_put (a : Nat → Nat) (n x : Nat) : acl (putA a n x) (n + 1) = acl a n ++ [.int .i64 (x : Nat)] := by
  unfold acl
  rw [List.range_succ, List.map_append]
  congr 1
  · refine List.map_congr_left fun i hi => ?_
    have := List.mem_range.1 hi
    unfold putA
    rw [if_neg (by omega)]
  · simp [putA]
theorem acl_swp (a : Nat → Nat) {n i j : Nat} (hi : i < n) (hj : j < n) : ((acl a n).set i (.int .i64 (a j : Nat))).set j (.int .i64 (a i : Nat)) = acl (swp a i j) n := by
  apply List.ext_getElem?
  intro k
  rw [List.getElem?_set, List.getElem?_set]
  by_cases hk : k < n
  · rw [acl_get _ hk, acl_get _ hk]
    unfold swp
    by_cases e1 : k = i
    · subst e1
      by_cases e2 : j = k
      · subst e2; simp [acl_length, hk]
      · simp [acl_length, hk, e2]
    · by_cases e2 : k = j
      · subst e2; simp [acl_length, hk, e1]
      · simp [show ¬ j = k from fun h => e2 h.symm, show ¬ i = k from fun h => e1 h.symm, e1, e2]
  · have h1 : (acl a n)[k]? = none := List.getElem?_eq_none (by rw [acl_length]; omega)
    have h2 : (acl (swp a i j) n)[k]? = none := List.getElem?_eq_none (by rw [acl_length]; omega)
    rw [h1, h2]
    simp [show ¬ j = k by omega, show ¬ i = k by omega]
theorem own_setI {w : World} {base n m g c : Nat} {xs : List Value} (h : w.ownsRow base 3 1 (.slice (some ⟨g, 0, none⟩) m c) n xs) (i : Nat) (x : Value) : (w.setCell ⟨g, i, none⟩ x).ownsRow base 3 1 (.slice (some ⟨g, 0, none⟩) m c) n (xs.set i x) := by
  refine ⟨by rw [List.length_set]; exact h.1, ?_⟩
  rcases h.2 with ⟨e1, _⟩ | ⟨g', cap, cur, e1, hb, hg, hn, hc, hsz, ht⟩
  · cases e1
  · injection e1 with e2 e3 e4
    injection e2 with e2; injection e2 with e2
    subst e2
    exact .inr ⟨_, cap, cur.setIfInBounds i x, by rw [e3, e4], hb, set_blk hg i x, hn, hc, by simpa using hsz, by rw [Array.toList_setIfInBounds, List.take_set, ht]⟩
/-- those of a set of blocks stay. -/
structure QX (X : Nat → Prop) (w w' : World) : Prop where
  os : w'.os = w.os
  tape : w'.tape = w.tape
  output : w'.output = w.output
  size : w.heap.size ≤ w'.heap.size
  block : ∀ k, X k → w'.heap[k]? = w.heap[k]?
theorem QX.refl (X : Nat → Prop) (w : World) : QX X w w := ⟨rfl, rfl, rfl, Nat.le_refl _, fun _ _ => rfl⟩
theorem QX.trans {X : Nat → Prop} {a b c : World} (h : QX X a b) (h2 : QX X b c) : QX X a c := ⟨h2.os.trans h.os, h2.tape.trans h.tape, h2.output.trans h.output, Nat.le_trans h.size h2.size, fun k hk => (h2.block k hk).trans (h.block k hk)⟩
/-- a heap of places: its block, its row; none of it is of X. -/
def RQ (X : Nat → Prop) (w : World) (B g : Nat) (E : Value) (n : Nat) (a : Nat → Nat) : Prop := ∃ vat, w.heap[g]? = some (.cells #[E, vat] 65 (0, 0)) ∧ w.ownsRow B 3 1 vat n (acl a n) ∧ ∀ k, X k → k < w.heap.size ∧ k ≠ g ∧ vat.ownBlock ≠ some k
theorem RQ.below {X : Nat → Prop} {w w' : World} {B g n : Nat} {E : Value} {a : Nat → Nat} (h : RQ X w B g E n a) (hb : Below w.heap.size w w') : RQ X w' B g E n a := by
  obtain ⟨vat, h1, h2, h3⟩ := h
  exact ⟨vat, (hb.block g (lt_blk h1)).trans h1, own_below h2 hb, fun k hk => ⟨Nat.lt_of_lt_of_le (h3 k hk).1 hb.size, (h3 k hk).2⟩⟩
theorem QX.of_below {X : Nat → Prop} {w w' : World} (hX : ∀ k, X k → k < w.heap.size) (hb : Below w.heap.size w w') : QX X w w' := ⟨hb.os, hb.tape, hb.output, hb.size, fun k hk => hb.block k (hX k hk)⟩
theorem RQ.lt {X : Nat → Prop} {w : World} {B g n : Nat} {E : Value} {a : Nat → Nat} (h : RQ X w B g E n a) : g < w.heap.size ∧ ∀ k, X k → k < w.heap.size := by
  obtain ⟨vat, h1, h2, h3⟩ := h
  exact ⟨lt_blk h1, fun k hk => (h3 k hk).1⟩
/-- the slots of the row. -/
theorem row_cells {w : World} {B n : Nat} {vat : Value} {a : Nat → Nat} (h : w.ownsRow B 3 1 vat n (acl a n)) {i : Nat} (hi : i < n) : ∃ b cap, vat = .slice (some ⟨b, 0, none⟩) n cap ∧ b < w.heap.size ∧ n ≤ cap ∧ (∀ k, k < n → w.cell? ⟨b, k, none⟩ = some (.int .i64 (a k : Nat))) ∧ ∀ k, w.frozen? ⟨b, k, none⟩ = false := by
  rcases h.2 with ⟨_, h0⟩ | ⟨b, cap, cur, rfl, _, hg, hn, _, hsz, ht⟩
  · omega
  · refine ⟨b, cap, rfl, lt_blk hg, hn, fun k hk => ?_, fun k => free_blk hg k⟩
    rw [cell_blk hg, ← Array.getElem?_toList]
    have : (cur.toList.take (n * 1))[k]? = some (.int .i64 (a k : Nat)) := by rw [ht]; exact acl_get a hk
    rw [List.getElem?_take_of_lt (by omega)] at this
    exact this

/-- a new row of one's own. -/
def VarS (B : Nat) (T : TypeId) (cs : Array Value) (n : Nat) (v : Value) (w : World) : Prop := ∃ g, v = .slice (some ⟨g, 0, none⟩) n n ∧ B ≤ g ∧ w.heap[g]? = some (.cells cs T (0, 0))
theorem VarS.keepsS (B : Nat) (T : TypeId) (cs : Array Value) (n : Nat) : KeepsS (VarS B T cs n) := fun v w w' ⟨g, h1, h2, h3⟩ hb => ⟨g, h1, h2, (hb.block g (lt_blk h3)).trans h3⟩
set_option maxRecDepth 100000 in
set_option maxHeartbeats 4000000 in
theorem rlen_at {X : Nat → Prop} {w : World} {B g n : Nat} {E : Value} {a : Nat → Nat} (h : RQ X w B g E n a) :
    Calls Try.prog 37 #[.pointer (some ⟨g, 0, none⟩)] w fun e w' => e = .returned (.int .i64 (n : Nat)) ∧ w' = w := by
  obtain ⟨vat, h1, h2, _⟩ := h
  obtain ⟨A, cap, rfl, _, _, _⟩ := own_rd h2
  have c1 := cell_blk h1 1
  simp only [List.getElem?_toArray, List.getElem?_cons_succ, List.getElem?_cons_zero] at c1
  clear h1 h2
  go_enter Try.func37, Try.ntmps37
  go_wp2_with fail
  go_ret
  exact ⟨rfl, rfl⟩
set_option maxRecDepth 100000 in
set_option maxHeartbeats 4000000 in
theorem rless_at {X : Nat → Prop} {w : World} {B g n : Nat} {m cm B0 : Nat} {A : Option Addr} {a : Nat → Nat} (h : RQ X w B g (.slice A m cm) n a) (l : List Ev) (hm : m = l.length) (hA : Evs w B0 A l) {i j : Nat} (hi : i < n) (hj : j < n) (hai : a i < m) (haj : a j < m) :
    Calls Try.prog 94 #[.pointer (some ⟨g, 0, none⟩), .int .i64 (i : Nat), .int .i64 (j : Nat)] w fun e w' => e = .returned (.bool (decide ((ev l (a i)).t < (ev l (a j)).t))) ∧ Below w.heap.size w w' := by
  obtain ⟨vat, h1, h2, _⟩ := h
  obtain ⟨b, cap, rfl, hb, hnc, hc, _⟩ := row_cells h2 hi
  have c0 := cell_blk h1 0
  have c1 := cell_blk h1 1
  simp only [List.getElem?_toArray, List.getElem?_cons_succ, List.getElem?_cons_zero] at c0 c1
  obtain ⟨be, oe, rfl, hbe, e1, _, _⟩ := hA (a i) (by omega)
  obtain ⟨be2, oe2, he, hbe2, e2, _, _⟩ := hA (a j) (by omega)
  injection he with he
  injection he with he1 he2
  subst he1; subst he2
  have d1 := hc i hi
  have d2 := hc j hj
  have hgl := lt_blk h1
  have T : Hid (∀ W, Below w.heap.size w W → W.cell? ⟨g, 0, none⟩ = some (.slice (some ⟨be, oe, none⟩) m cm) ∧ W.cell? ⟨g, 1, none⟩ = some (.slice (some ⟨b, 0, none⟩) n cap) ∧ W.cell? ⟨b, i, none⟩ = some (.int .i64 (a i : Nat)) ∧ W.cell? ⟨b, j, none⟩ = some (.int .i64 (a j : Nat)) ∧
      W.cell? ⟨be, oe + a i * 3, none⟩ = some (.int .i64 (ev l (a i)).t) ∧ W.cell? ⟨be, oe + a j * 3, none⟩ = some (.int .i64 (ev l (a j)).t)) := Lib.hid fun W hW =>
    ⟨(hW.cell (p := ⟨g, 0, none⟩) hgl).trans c0, (hW.cell (p := ⟨g, 1, none⟩) hgl).trans c1, (hW.cell (p := ⟨b, i, none⟩) hb).trans d1, (hW.cell (p := ⟨b, j, none⟩) hb).trans d2,
      (hW.cell (p := ⟨be, oe + a i * 3, none⟩) (World.block_lt_of_cell? _ _ e1)).trans e1, (hW.cell (p := ⟨be, oe + a j * 3, none⟩) (World.block_lt_of_cell? _ _ e2)).trans e2⟩
  clear h1 h2 hc c0 c1 e1 e2 d1 d2 hA
  generalize (ev l (a i)).t = x at *
  generalize (ev l (a j)).t = y at *
  generalize a i = ai at *
  generalize a j = aj at *
  have g1 : (0 : Int) ≤ i := by omega
  have g2 : (i : Int) < n := by omega
  have g3 : (0 : Int) ≤ j := by omega
  have g4 : (j : Int) < n := by omega
  have g5 : (0 : Int) ≤ ai := by omega
  have g6 : (ai : Int) < m := by omega
  have g7 : (0 : Int) ≤ aj := by omega
  have g8 : (aj : Int) < m := by omega
  clear hm
  go_enter Try.func94, Try.ntmps94
  go_upto_region 1 with (fail)
  apply wp_region_relH (H := []) 30 [(Sum.inl _ : TT), (Sum.inl _ : TT), (Sum.inl _ : TT), (Sum.inl _ : TT), (Sum.inl _ : TT), (Sum.inl _ : TT), (Sum.inl _ : TT), (Sum.inl _ : TT), (Sum.inl _ : TT), (Sum.inl _ : TT), (Sum.inl _ : TT), (Sum.inl _ : TT), (Sum.inl _ : TT), (Sum.inl _ : TT), (Sum.inl _ : TT), (Sum.inl _ : TT), (Sum.inl _ : TT), (Sum.inl _ : TT), (Sum.inl _ : TT), (Sum.inl _ : TT), (Sum.inl _ : TT), (Sum.inl _ : TT), (Sum.inl _ : TT), (Sum.inl _ : TT), (Sum.inl _ : TT), (Sum.inl _ : TT), (Sum.inl _ : TT), (Sum.inl _ : TT), (Sum.inl _ : TT), (Sum.inl _ : TT)] (by kernel_rfl) (by kernel_rfl) (fun _ _ _ _ _ h => h) rfl
  simp only [List.take_succ_cons, List.take_zero, List.drop_succ_cons, List.drop_zero]
  iterate 30 (apply rel_isS; (intro W hW hf; obtain ⟨z1, z2, z3, z4, z5, z6⟩ := T.out W hW; go_simp; first | exact ⟨StayS.refl _ _, rfl⟩ | rfl); simp only [Act.put, List.setIfInBounds_toArray, List.set_cons_succ, List.set_cons_zero])
  refine rel_endS ?_
  intro W hW hf
  try simp only [Act.put, List.setIfInBounds_toArray, List.set_cons_succ, List.set_cons_zero]
  refine wpList_nil ?_
  have HW := Lib.hid hW
  clear hW hf
  go_wp2_with fail
  go_ret
  exact ⟨rfl, HW.out⟩
set_option maxRecDepth 100000 in
set_option maxHeartbeats 4000000 in
theorem rswap_at {X : Nat → Prop} {w : World} {B g n : Nat} {E : Value} {a : Nat → Nat} (h : RQ X w B g E n a) {i j : Nat} (hi : i < n) (hj : j < n) :
    Calls Try.prog 97 #[.pointer (some ⟨g, 0, none⟩), .int .i64 (i : Nat), .int .i64 (j : Nat)] w fun e w' => e = .returned (.tuple #[]) ∧ RQ X w' B g E n (swp a i j) ∧ QX X w w' := by
  obtain ⟨vat, h1, h2, h3⟩ := h
  obtain ⟨b, cap, rfl, hb, hnc, hc, hf⟩ := row_cells h2 hi
  have hgb : g ≠ b := by
    rintro rfl
    rcases h2.2 with ⟨e, _⟩ | ⟨g', cap', cur, e, _, hg, _⟩
    · cases e
    · injection e with e; injection e with e; injection e with e
      subst e
      rw [h1] at hg
      injection hg with e; injection e with _ e _; exact absurd e (by decide)
  have c1 := cell_blk h1 1
  simp only [List.getElem?_toArray, List.getElem?_cons_succ, List.getElem?_cons_zero] at c1
  have d1 := hc i hi
  have d2 := hc j hj
  have fz := hf
  have HS : Hid (∀ v : Value, w.grownBy (w.setCell ⟨b, i, none⟩ v) (some b)) := Lib.hid fun v => grown_setCell (World.grownBy.refl w (some b)) (p := ⟨b, i, none⟩) rfl v
  have d3 : (w.setCell ⟨b, i, none⟩ (.int .i64 (a j : Nat))).cell? ⟨b, j, none⟩ = some (.int .i64 (a j : Nat)) := by
    by_cases e : i = j
    · subst e
      obtain ⟨_, _, e, _, _, hc', _⟩ := row_cells (a := fun k => if k = i then a i else a k) (n := n) (B := B) (vat := .slice (some ⟨b, 0, none⟩) n cap) (w := w.setCell ⟨b, i, none⟩ (.int .i64 (a i : Nat))) (by
        have := own_setI h2 i (.int .i64 (a i : Nat))
        have e2 : (acl a n).set i (.int .i64 (a i : Nat)) = acl (fun k => if k = i then a i else a k) n := by
          apply List.ext_getElem?
          intro k
          rw [List.getElem?_set]
          by_cases hk : k < n
          · rw [acl_get _ hk, acl_get _ hk]
            by_cases e : i = k
            · subst e; simp [acl_length, hk]
            · simp [e, show ¬ k = i from fun h => e h.symm]
          · rw [List.getElem?_eq_none (l := acl a n) (by rw [acl_length]; omega), List.getElem?_eq_none (l := acl _ n) (by rw [acl_length]; omega)]
            simp [show ¬ i = k by omega]
        rw [e2] at this
        exact this) hi
      injection e with e; injection e with e; injection e with e
      subst e
      have := hc' i hi
      simpa using this
    · rcases h2.2 with ⟨_, h0⟩ | ⟨b', cap', cur, e', _, hg, _⟩
      · omega
      · injection e' with e'; injection e' with e'; injection e' with e'
        subst e'
        rw [cell_blk (set_blk hg i _), Array.getElem?_setIfInBounds_ne e, ← cell_blk hg]
        exact d2
  have g1 : (0 : Int) ≤ i := by omega
  have g2 : (i : Int) < n := by omega
  have g3 : (0 : Int) ≤ j := by omega
  have g4 : (j : Int) < n := by omega
  have H1 := Lib.hid h1; have H2 := Lib.hid h2; have H3 := Lib.hid h3
  have HGB := Lib.hid hgb
  clear h1 h2 h3 hc hf hgb
  go_enter Try.func97, Try.ntmps97
  go_region
  go_wp2_with fail
  go_end0
  have hg : w.grownBy ((w.setCell ⟨b, i, none⟩ (.int .i64 (a j : Nat))).setCell ⟨b, j, none⟩ (.int .i64 (a i : Nat))).drew (some b) := grown_drew (grown_setCell (HS.out _) (p := ⟨b, j, none⟩) rfl _)
  refine ⟨rfl, ⟨.slice (some ⟨b, 0, none⟩) n cap, (hg.block g (lt_blk H1.out) (by simpa using HGB.out)).trans H1.out, ?_, fun k hk => ⟨Nat.lt_of_lt_of_le (H3.out k hk).1 hg.size, (H3.out k hk).2⟩⟩, ⟨hg.os, hg.tape, hg.output, hg.size, fun k hk => hg.block k (H3.out k hk).1 (fun e => (H3.out k hk).2.2 e.symm)⟩⟩
  have := own_setI (own_setI H2.out i (.int .i64 (a j : Nat))) j (.int .i64 (a i : Nat))
  rw [acl_swp a hi hj] at this
  exact this
set_option maxRecDepth 100000 in
set_option maxHeartbeats 4000000 in
theorem rpush_at {X : Nat → Prop} {w : World} {B g n : Nat} {E : Value} {a : Nat → Nat} (h : RQ X w B g E n a) (hn : n ≤ 1000000) (hB : B ≤ w.heap.size) (x : Nat) :
    Calls Try.prog 96 #[.pointer (some ⟨g, 0, none⟩), .iface 3 (.int .i64 (x : Nat))] w fun e w' => e = .returned (.tuple #[]) ∧ RQ X w' B g E (n + 1) (putA a n x) ∧ QX X w w' := by
  obtain ⟨vat, h1, h2, h3⟩ := h
  obtain ⟨A, cap, rfl, _, _, _⟩ := own_rd h2
  have c1 := cell_blk h1 1
  simp only [List.getElem?_toArray, List.getElem?_cons_succ, List.getElem?_cons_zero] at c1
  have hgl := lt_blk h1
  have H1 := Lib.hid h1; have H2 := Lib.hid h2; have H3 := Lib.hid h3
  have T : Hid (∀ W, Below w.heap.size w W → W.cell? ⟨g, 1, none⟩ = some (.slice A n cap)) := Lib.hid fun W hW => (hW.cell (p := ⟨g, 1, none⟩) hgl).trans c1
  clear h1 h2 h3 c1
  go_enter Try.func96, Try.ntmps96
  apply wp_region_relH (H := [0]) 8 [(Sum.inl _ : TT), (Sum.inl _ : TT), (Sum.inl _ : TT), (Sum.inl _ : TT), (Sum.inl _ : TT), (Sum.inl _ : TT), (Sum.inl _ : TT), .inr (VarS w.heap.size 3 #[.int .i64 (x : Nat)] 1)] (by kernel_rfl) (by kernel_rfl) (fun _ _ _ _ _ h => h) rfl
  simp only [List.take_succ_cons, List.take_zero, List.drop_succ_cons, List.drop_zero]
  iterate 7 (apply rel_isS; (intro W hW hf; have z1 := T.out W hW; go_simp; first | exact ⟨StayS.refl _ _, rfl⟩ | rfl); simp only [Act.put, List.setIfInBounds_toArray, List.set_cons_succ, List.set_cons_zero])
  refine rel_fitsS (fun W hW hf => ?_) (VarS.keepsS _ _ _ _) fun v11 => ?_
  · go_simp
    exact ⟨StayS.of (below_alloc W _) hW.size, ⟨_, rfl, hW.size, heap_alloc_new _ _⟩⟩
  simp only [Act.put, List.setIfInBounds_toArray, List.set_cons_succ, List.set_cons_zero]
  refine rel_endS ?_
  intro W hW hf
  try simp only [Act.put, List.setIfInBounds_toArray, List.set_cons_succ, List.set_cons_zero]
  have h11 := hf (11, VarS w.heap.size 3 #[.int .i64 (x : Nat)] 1 v11) (by simp)
  obtain ⟨g11, rfl, hg1, hg2⟩ := h11
  have HW := Lib.hid hW
  have O2 := Lib.hid (own_below H2.out hW)
  clear hW hf
  refine wpList_append_src EI rfl (.tmp 8) (.tmp 11) rfl B (.slice A n cap) n (acl a n) rfl O2.out (g11 + 1) (some ⟨g11, 0, none⟩) [.int .i64 (x : Nat)] 1 1 rfl rfl (fun k u hu => ⟨g11, 0, rfl, by omega, by
    match k, hu with
    | 0, hu =>
      simp at hu; subst hu
      rw [cell_blk hg2]; rfl⟩) (fun h => by cases h) (by simp [Value.oneCell']) (by omega) (by omega) w hB (HW.out.mono hB) ?_
  intro v12 w12 h12 b12 gr12 ob12
  have hX := H3.out
  have hgg := lt_blk H1.out
  have hgB : some g ≠ (Value.slice A n cap).ownBlock := fun e => by
    rcases H2.out.2 with ⟨e1, _⟩ | ⟨g', cap', cur, e1, _, hg, _⟩
    · rw [e1] at e; simp [Value.ownBlock] at e
    · rw [e1] at e
      obtain rfl : g = g' := by simpa [Value.ownBlock] using e
      rw [H1.out] at hg
      injection hg with e; injection e with _ e _; exact absurd e (by decide)
  have hb12 : w12.heap[g]? = w.heap[g]? := (gr12.block g (Nat.lt_of_lt_of_le hgg HW.out.size) hgB).trans (HW.out.block g hgg)
  have z1 : w12.cell? ⟨g, 1, none⟩ = some (.slice A n cap) := by rw [World.cell?_of_block hb12]; exact T.out w (Below.refl _ _)
  have z2 : w12.frozen? ⟨g, 1, none⟩ = false := free_blk (hb12.trans H1.out) 1
  obtain ⟨A5, c5, rfl, _⟩ := own_rd h12
  have O12 := Lib.hid h12; have G12 := Lib.hid gr12; have OB12 := Lib.hid ob12; have HB12 := Lib.hid hb12
  clear h12 gr12 ob12 hX b12 hgB hb12
  go_wp2_with fail
  go_end0
  have hgg := lt_blk H1.out
  have hgw : g < W.heap.size := Nat.lt_of_lt_of_le hgg HW.out.size
  have hrow : ∀ k, k < w.heap.size → (Value.slice A n cap).ownBlock ≠ some k → (Value.slice A5 (n + 1) c5).ownBlock ≠ some k := fun k hk hne e => by
    rcases OB12.out with h | h
    · exact hne (h.symm.trans e)
    · rw [h] at e
      injection e with e
      have := HW.out.size
      omega
  have hgr : w12.grownBy (w12.setCell ⟨g, 1, none⟩ (.slice A5 (n + 1) c5)) (some g) := grown_setCell (World.grownBy.refl w12 (some g)) (p := ⟨g, 1, none⟩) rfl _
  have hvg : (Value.slice A n cap).ownBlock ≠ some g := fun e => by
    rcases H2.out.2 with ⟨e1, _⟩ | ⟨g', cap', cur, e1, _, hg, _⟩
    · rw [e1] at e; simp [Value.ownBlock] at e
    · rw [e1] at e
      obtain rfl : g' = g := by simpa [Value.ownBlock] using e
      rw [H1.out] at hg
      injection hg with e; injection e with _ e _; exact absurd e (by decide)
  have hsz : w.heap.size ≤ w12.heap.size := Nat.le_trans HW.out.size G12.out.size
  refine ⟨rfl, ⟨.slice A5 (n + 1) c5, set_blk (HB12.out.trans H1.out) 1 _, ?_, fun k hk => ?_⟩, ⟨hgr.os.trans (G12.out.os.trans HW.out.os), hgr.tape.trans (G12.out.tape.trans HW.out.tape), hgr.output.trans (G12.out.output.trans HW.out.output), Nat.le_trans hsz hgr.size, fun k hk => ?_⟩⟩
  · rw [acl_put]
    refine O12.out.kept hgr ?_
    cases hq : (Value.slice A5 (n + 1) c5).ownBlock with
    | none => exact .inl rfl
    | some b =>
      refine .inr fun e => ?_
      injection e with e
      exact hrow g hgg hvg (by rw [hq, e])
  · obtain ⟨a1, a2, a3⟩ := H3.out k hk
    exact ⟨Nat.lt_of_lt_of_le a1 (Nat.le_trans hsz hgr.size), a2, hrow k a1 a3⟩
  · obtain ⟨a1, a2, a3⟩ := H3.out k hk
    rw [hgr.block k (Nat.lt_of_lt_of_le a1 hsz) (by simpa using a2), G12.out.block k (Nat.lt_of_lt_of_le a1 HW.out.size) (fun e => a3 e.symm), HW.out.block k a1]
set_option maxRecDepth 100000 in
set_option maxHeartbeats 4000000 in
theorem rpop_at {X : Nat → Prop} {w : World} {B g n : Nat} {E : Value} {a : Nat → Nat} (h : RQ X w B g E (n + 1) a) (hn : n ≤ 1000000) :
    Calls Try.prog 95 #[.pointer (some ⟨g, 0, none⟩)] w fun e w' => e = .returned (.iface 3 (.int .i64 (a n : Nat))) ∧ RQ X w' B g E n a ∧ QX X w w' := by
  obtain ⟨vat, h1, h2, h3⟩ := h
  obtain ⟨b, cap, rfl, hb, hnc, hc, hf⟩ := row_cells h2 (show n < n + 1 by omega)
  have c1 := cell_blk h1 1
  simp only [List.getElem?_toArray, List.getElem?_cons_succ, List.getElem?_cons_zero] at c1
  have f1 := free_blk h1 1
  have d1 := hc n (by omega)
  have g1 : (0 : Int) ≤ n := by omega
  have g3 : (n : Int) ≤ cap := by omega
  have H1 := Lib.hid h1; have H2 := Lib.hid h2; have H3 := Lib.hid h3
  clear h1 h2 h3 hc hf
  go_enter Try.func95, Try.ntmps95
  go_wp2_with fail
  go_region
  go_wp2_with fail
  go_region
  go_wp2_with fail
  go_ret
  have hgb : g ≠ b := by
    rintro rfl
    rcases H2.out.2 with ⟨e, _⟩ | ⟨g', cap', cur, e, _, hg, _⟩
    · cases e
    · injection e with e; injection e with e; injection e with e
      subst e
      rw [H1.out] at hg
      injection hg with e; injection e with _ e _; exact absurd e (by decide)
  have hg : w.grownBy (w.setCell ⟨g, 1, none⟩ (.slice (some ⟨b, 0, none⟩) n cap)).drew.drew (some g) := grown_drew (grown_drew (grown_setCell (World.grownBy.refl w (some g)) (p := ⟨g, 1, none⟩) rfl _))
  refine ⟨rfl, ⟨.slice (some ⟨b, 0, none⟩) n cap, set_blk H1.out 1 _, ?_, fun k hk => ?_⟩, ⟨hg.os, hg.tape, hg.output, hg.size, fun k hk => ?_⟩⟩
  · refine ⟨by rw [acl_length]; omega, .inr ?_⟩
    rcases H2.out.2 with ⟨e, _⟩ | ⟨b', cap', cur, e, hbB, hg', hn', hc', hsz', ht'⟩
    · cases e
    · injection e with e e2 e3
      injection e with e; injection e with e
      subst e; subst e3
      refine ⟨b, cap, cur, rfl, hbB, (hg.block b (lt_blk hg') (by simpa using fun h => hgb h.symm)).trans hg', by omega, hc', hsz', ?_⟩
      have e1 : cur.toList.take (n * 1) = (cur.toList.take ((n + 1) * 1)).take n := by rw [List.take_take]; congr 1; omega
      rw [e1, ht']
      unfold acl
      rw [List.range_succ, List.map_append, List.take_left' (by simp)]
  · obtain ⟨a1, a2, a3⟩ := H3.out k hk
    exact ⟨Nat.lt_of_lt_of_le a1 hg.size, a2, a3⟩
  · obtain ⟨a1, a2, a3⟩ := H3.out k hk
    exact hg.block k a1 (by simpa using a2)
end Go.Proofs.Ytaalinhkikmfaaa
end

section
set_option linter.unusedSimpArgs false
set_option linter.unusedVariables false
namespace Go.Proofs.Ytaalinhkikmfaaa
open Go.RowKit

def rif (g : Nat) : Value := .iface 63 (.pointer (some ⟨g, 0, none⟩))
def tk (l : List Ev) (x : Nat) : Int := (ev l x).t
theorem inv_less (v : Addr) (W : World) : (method 231 63 (.pointer (some v)) "Less").run Try.prog W = .ok (94, .pointer (some v)) W := by kernel_rfl
theorem inv_len (v : Addr) (W : World) : (method 231 63 (.pointer (some v)) "Len").run Try.prog W = .ok (37, .pointer (some v)) W := by kernel_rfl
theorem inv_swap (v : Addr) (W : World) : (method 231 63 (.pointer (some v)) "Swap").run Try.prog W = .ok (97, .pointer (some v)) W := by kernel_rfl
theorem inv_push (v : Addr) (W : World) : (method 231 63 (.pointer (some v)) "Push").run Try.prog W = .ok (96, .pointer (some v)) W := by kernel_rfl
theorem inv_pop (v : Addr) (W : World) : (method 231 63 (.pointer (some v)) "Pop").run Try.prog W = .ok (95, .pointer (some v)) W := by kernel_rfl
/-- the same ones in other places. -/
def SameA (n : Nat) (a a' : Nat → Nat) : Prop := (∀ x, Has a' n x ↔ Has a n x) ∧ (InjP a n → InjP a' n)
theorem SameA.refl (n : Nat) (a : Nat → Nat) : SameA n a a := ⟨fun _ => Iff.rfl, id⟩
theorem SameA.swp {n i j : Nat} {a a' : Nat → Nat} (h : SameA n a a') (hi : i < n) (hj : j < n) : SameA n a (swp a' i j) := ⟨fun x => (has_swp hi hj x).trans (h.1 x), fun h2 => inj_swp hi hj (h.2 h2)⟩
theorem SameA.lt {n m : Nat} {a a' : Nat → Nat} (h : SameA n a a') (hm : ∀ i, i < n → a i < m) : ∀ i, i < n → a' i < m := fun i hi => by
  obtain ⟨j, hj, e⟩ := (h.1 (a' i)).1 ⟨i, hi, rfl⟩
  rw [← e]; exact hm j hj
set_option maxRecDepth 100000 in
set_option maxHeartbeats 4000000 in
theorem up_at {X : Nat → Prop} {w : World} {B g n m cm B0 : Nat} {A : Option Addr} {a : Nat → Nat} (l : List Ev) (hm : m = l.length) (h : RQ X w B g (.slice A m cm) n a) (hA : ∀ W, QX X w W → Evs W B0 A l) (hn : n ≤ 1000000) (hall : ∀ i, i < n → a i < m) {j : Nat} (hj : j < n) (hu : UpP (tk l) a n j) :
    Calls Try.prog 52 #[rif g, .int .i64 (j : Nat)] w fun e w' => e = .returned (.tuple #[]) ∧ ∃ a', HeapP (tk l) a' n ∧ SameA n a a' ∧ RQ X w' B g (.slice A m cm) n a' ∧ QX X w w' := by
  have HR := Lib.hid h; have HA := Lib.hid hA; have HU := Lib.hid hu; have HL := Lib.hid hall; have HM := Lib.hid hm
  clear h hA hu hall hm
  unfold rif
  go_enter Try.func52, Try.ntmps52
  go_wp2_with fail
  go_loopw [1] (fun jv wr => ∃ (j : Nat) (a' : Nat → Nat), j < n ∧ jv = .int .i64 (j : Nat) ∧ UpP (tk l) a' n j ∧ SameA n a a' ∧ RQ X wr B g (.slice A m cm) n a' ∧ QX X w wr) (fun jv _ => (intOf jv).toNat)
  case atStart => exact ⟨j, a, hj, rfl, HU.out, SameA.refl _ _, HR.out, QX.refl _ _⟩
  case round =>
    obtain ⟨j, a', hj, rfl, hu, hsa, hr, hq⟩ := hrel
    have HU2 := Lib.hid hu; have HS2 := Lib.hid hsa; have HR2 := Lib.hid hr; have HQ2 := Lib.hid hq
    clear hu hsa hr hq
    by_cases h0 : j = 0
    · subst h0
      go_wp2_with fail
      go_end0
      exact ⟨rfl, a', up_stop HU2.out (.inl rfl), HS2.out, HR2.out, HQ2.out⟩
    · obtain ⟨i, hi0⟩ : ∃ i, i = (j - 1) / 2 := ⟨_, rfl⟩
      have e1 : ((j : Int) - 1).tdiv 2 = (i : Int) := by
        rw [hi0, show (j : Int) - 1 = ((j - 1 : Nat) : Int) by omega]; rfl
      have hi : i < n := by omega
      have hij : i < j := by omega
      have hne : ((i : Int) == (j : Int)) = false := by rw [beq_eq_false_iff_ne]; omega
      have HI0 := Lib.hid hi0
      clear hi0
      have HLE := Lib.hid (rless_at HR2.out l HM.out (HA.out _ HQ2.out) hj hi (HS2.out.lt HL.out j hj) (HS2.out.lt HL.out _ hi))
      have hil := inv_less ⟨g, 0, none⟩
      have his := inv_swap ⟨g, 0, none⟩
      go_wp2_with fail
      refine HLE.out.mono ?_
      rintro e w3 ⟨rfl, b3⟩
      have HR3 := Lib.hid (HR2.out.below b3)
      have HQ3 := Lib.hid (HQ2.out.trans (QX.of_below HR2.out.lt.2 b3))
      have HSW := Lib.hid (rswap_at (HR2.out.below b3) hi hj)
      clear b3
      have hdec : (ev l (a' j)).t < (ev l (a' i)).t ∨ ¬ (ev l (a' j)).t < (ev l (a' i)).t := Classical.em _
      rcases hdec with hd | hd
      · rw [decide_eq_true hd]
        have HD := Lib.hid hd
        clear hd
        go_wp2_with fail
        refine HSW.out.mono ?_
        rintro e w4 ⟨rfl, r4, q4⟩
        have HR4 := Lib.hid r4; have HQ4 := Lib.hid (HQ3.out.trans q4)
        clear r4 q4
        go_wp2_with fail
        refine ⟨⟨i, _, hi, rfl, ?_, HS2.out.swp hi hj, HR4.out, HQ4.out⟩, by simp [intOf]; omega⟩
        have h5 := HU2.out
        have h6 := HI0.out
        have := up_step h5 (by omega) hj (by rw [← h6]; exact HD.out)
        rw [← h6] at this
        exact this
      · rw [decide_eq_false hd]
        have HD := Lib.hid hd
        clear hd
        go_wp2_with fail
        go_end0
        exact ⟨rfl, a', up_stop HU2.out (.inr (by rw [← HI0.out]; exact Int.not_lt.2 HD.out)), HS2.out, HR3.out, HQ3.out⟩
set_option maxRecDepth 100000 in
set_option maxHeartbeats 4000000 in
theorem hpush_at {X : Nat → Prop} {w : World} {B g n m cm B0 : Nat} {A : Option Addr} {a : Nat → Nat} (l : List Ev) (hm : m = l.length) (h : RQ X w B g (.slice A m cm) n a) (hA : ∀ W, QX X w W → Evs W B0 A l) (hn : n ≤ 100000) (hB : B ≤ w.heap.size) (hall : ∀ i, i < n → a i < m) (hh : HeapP (tk l) a n) (x : Nat) (hx : x < m) :
    Calls Try.prog 36 #[rif g, .iface 3 (.int .i64 (x : Nat))] w fun e w' => e = .returned (.tuple #[]) ∧ ∃ a', HeapP (tk l) a' (n + 1) ∧ SameA (n + 1) (putA a n x) a' ∧ RQ X w' B g (.slice A m cm) (n + 1) a' ∧ QX X w w' := by
  have HR := Lib.hid h; have HA := Lib.hid hA; have HH := Lib.hid hh; have HL := Lib.hid hall; have HM := Lib.hid hm
  have HPU := Lib.hid (rpush_at h (by omega) hB x)
  clear h hA hh hall hm
  unfold rif
  have hip := inv_push ⟨g, 0, none⟩
  have hil := inv_len ⟨g, 0, none⟩
  go_enter Try.func36, Try.ntmps36
  go_wp2_with fail
  refine HPU.out.mono ?_
  rintro e w1 ⟨rfl, r1, q1⟩
  have HR1 := Lib.hid r1; have HQ1 := Lib.hid q1
  have HLN := Lib.hid (rlen_at r1)
  have HUP := Lib.hid (up_at l HM.out r1 (fun W hW => HA.out W (q1.trans hW)) (by omega) (fun i hi => by
    unfold putA
    split
    · exact hx
    · exact HL.out i (by omega)) (show n < n + 1 by omega) (push_up HH.out x))
  clear r1 q1
  go_wp2_with fail
  refine HLN.out.mono ?_
  rintro e w2 ⟨rfl, rfl⟩
  go_wp2_with fail
  refine HUP.out.mono ?_
  rintro e w3 ⟨rfl, a', h1, h2, h3, h4⟩
  have H1 := Lib.hid h1; have H2 := Lib.hid h2; have H3 := Lib.hid h3; have H4 := Lib.hid (HQ1.out.trans h4)
  clear h1 h2 h3 h4
  go_wp2_with fail
  go_end0
  exact ⟨rfl, a', H1.out, H2.out, H3.out, H4.out⟩
end Go.Proofs.Ytaalinhkikmfaaa
end

section
set_option linter.unusedSimpArgs false
set_option linter.unusedVariables false
namespace Go.Proofs.Ytaalinhkikmfaaa
open Go.RowKit

set_option maxRecDepth 100000 in
set_option maxHeartbeats 8000000 in
theorem down_at {X : Nat → Prop} {w : World} {B g N n m cm B0 : Nat} {A : Option Addr} {a : Nat → Nat} (l : List Ev) (hm : m = l.length) (h : RQ X w B g (.slice A m cm) N a) (hA : ∀ W, QX X w W → Evs W B0 A l) (hN : N ≤ 1000000) (hn : n ≤ N) (hall : ∀ i, i < N → a i < m) (hu : DownP (tk l) a n 0) :
    Calls Try.prog 53 #[rif g, .int .i64 0, .int .i64 (n : Nat)] w fun e w' => (∃ b, e = .returned (.bool b)) ∧ ∃ a', HeapP (tk l) a' n ∧ SameA N a a' ∧ (∀ k, n ≤ k → a' k = a k) ∧ RQ X w' B g (.slice A m cm) N a' ∧ QX X w w' := by
  have HR := Lib.hid h; have HA := Lib.hid hA; have HU := Lib.hid hu; have HL := Lib.hid hall; have HM := Lib.hid hm
  clear h hA hu hall hm
  unfold rif
  go_enter Try.func53, Try.ntmps53
  go_wp2_with fail
  go_loopw [7] (fun iv wr => ∃ (i : Nat) (a' : Nat → Nat), i ≤ n ∧ iv = .int .i64 (i : Nat) ∧ DownP (tk l) a' n i ∧ SameA N a a' ∧ (∀ k, n ≤ k → a' k = a k) ∧ RQ X wr B g (.slice A m cm) N a' ∧ QX X w wr) (fun iv _ => n - (intOf iv).toNat)
  case atStart => exact ⟨0, a, by omega, rfl, HU.out, SameA.refl _ _, fun _ _ => rfl, HR.out, QX.refl _ _⟩
  case round =>
    obtain ⟨i, a', hi, rfl, hu, hsa, hk, hr, hq⟩ := hrel
    have HU2 := Lib.hid hu; have HS2 := Lib.hid hsa; have HK2 := Lib.hid hk; have HR2 := Lib.hid hr; have HQ2 := Lib.hid hq
    clear hu hsa hk hr hq
    have hil := inv_less ⟨g, 0, none⟩
    have his := inv_swap ⟨g, 0, none⟩
    by_cases h1 : 2 * i + 1 < n
    · obtain ⟨j1, hja, hjb⟩ : ∃ j1, j1 ≤ 2 * i + 1 ∧ 2 * i + 1 ≤ j1 := ⟨_, Nat.le_refl _, Nat.le_refl _⟩
      have e0 : IntKind.i64.wrap ((2 : Int) * (i : Int)) = 2 * (i : Int) := wi64 _ (by omega) (by omega)
      have ej : Hid (2 * (i : Int) + 1 = (j1 : Int)) := Lib.hid (by omega)
      have d1 : decide ((n : Int) ≤ (j1 : Int)) = false := decide_eq_false (by omega)
      have d2 : decide ((j1 : Int) < 0) = false := decide_eq_false (by omega)
      by_cases h2 : j1 + 1 < n
      · have d3 : decide (((j1 : Int) + 1) < (n : Int)) = true := decide_eq_true (by omega)
        have HLE0 := Lib.hid (rless_at HR2.out l HM.out (HA.out _ HQ2.out) (show j1 + 1 < N by omega) (show j1 < N by omega) (HS2.out.lt HL.out (j1 + 1) (by omega)) (HS2.out.lt HL.out j1 (by omega)))
        rw [show ((j1 + 1 : Nat) : Int) = (j1 : Int) + 1 by omega] at HLE0
        go_wp2_with fail
        rw [ej.out]
        with_reducible refine HLE0.out.mono ?_
        rintro e wx ⟨rfl, bx⟩
        have HRx := Lib.hid (HR2.out.below bx)
        have HQx := Lib.hid (HQ2.out.trans (QX.of_below HR2.out.lt.2 bx))
        clear bx
        rcases Classical.em ((ev l (a' (j1 + 1))).t < (ev l (a' j1)).t) with hc | hc
        · rw [decide_eq_true hc]
          obtain ⟨j2, hj2⟩ : ∃ j2, j2 = j1 + 1 := ⟨_, rfl⟩
          rw [← hj2] at hc
          have ec : Hid ((j1 : Int) + 1 = (j2 : Int)) := Lib.hid (by omega)
          have hj3 : j2 ≤ j1 + 1 := by omega
          have hj4 : j1 + 1 ≤ j2 := by omega
          clear hj2
          have HMN : Hid (∀ c, 0 < c → c < n → (c - 1) / 2 = i → tk l (a' j2) ≤ tk l (a' c)) := Lib.hid fun c c0 cn hp => by
            have hcc : c = j1 ∨ c = j2 := by omega
            unfold tk
            rcases hcc with rfl | rfl
            · omega
            · exact Int.le_refl _
          clear hc
          rw [ec.out]
          have HLE := Lib.hid (rless_at HRx.out l HM.out (HA.out _ HQx.out) (show j2 < N by omega) (show i < N by omega) (HS2.out.lt HL.out j2 (by omega)) (HS2.out.lt HL.out i (by omega)))
          have HSW := Lib.hid fun W (hW : Below wx.heap.size wx W) => rswap_at (HRx.out.below hW) (show i < N by omega) (show j2 < N by omega)
          go_wp2_with fail
          with_reducible refine HLE.out.mono ?_
          rintro e wy ⟨rfl, by_⟩
          have HRy := Lib.hid (HRx.out.below by_)
          have HQy := Lib.hid (HQx.out.trans (QX.of_below HRx.out.lt.2 by_))
          have HSY := Lib.hid (HSW.out _ by_)
          clear by_
          rcases Classical.em ((ev l (a' (j2))).t < (ev l (a' i)).t) with hd | hd
          · rw [decide_eq_true hd]
            have HD := Lib.hid hd
            clear hd
            go_wp2_with fail
            with_reducible refine HSY.out.mono ?_
            rintro e wz ⟨rfl, r4, q4⟩
            have HR4 := Lib.hid r4; have HQ4 := Lib.hid (HQy.out.trans q4)
            clear r4 q4
            go_wp2_with fail
            exact ⟨⟨j2, _, by omega, rfl, down_step HU2.out (by omega) (by omega) (by omega) HMN.out HD.out, HS2.out.swp (by omega) (by omega), fun k hk => (swp_o a' (by omega) (by omega)).trans (HK2.out k hk), HR4.out, HQ4.out⟩, by simp [intOf]; omega⟩
          · rw [decide_eq_false hd]
            have HD := Lib.hid hd
            clear hd
            go_wp2_with fail
            go_ret
            refine ⟨⟨_, rfl⟩, a', down_stop HU2.out fun c c0 cn hp => ?_, HS2.out, HK2.out, HRy.out, HQy.out⟩
            have h1 := HMN.out c c0 cn hp
            have h2 := HD.out
            unfold tk at h1 ⊢
            omega
        · rw [decide_eq_false hc]
          have HMN : Hid (∀ c, 0 < c → c < n → (c - 1) / 2 = i → tk l (a' j1) ≤ tk l (a' c)) := Lib.hid fun c c0 cn hp => by
            have hcc : c = j1 ∨ c = j1 + 1 := by omega
            unfold tk
            rcases hcc with rfl | rfl
            · exact Int.le_refl _
            · omega
          clear hc
          have HLE := Lib.hid (rless_at HRx.out l HM.out (HA.out _ HQx.out) (show j1 < N by omega) (show i < N by omega) (HS2.out.lt HL.out j1 (by omega)) (HS2.out.lt HL.out i (by omega)))
          have HSW := Lib.hid fun W (hW : Below wx.heap.size wx W) => rswap_at (HRx.out.below hW) (show i < N by omega) (show j1 < N by omega)
          go_wp2_with fail
          with_reducible refine HLE.out.mono ?_
          rintro e wy ⟨rfl, by_⟩
          have HRy := Lib.hid (HRx.out.below by_)
          have HQy := Lib.hid (HQx.out.trans (QX.of_below HRx.out.lt.2 by_))
          have HSY := Lib.hid (HSW.out _ by_)
          clear by_
          rcases Classical.em ((ev l (a' (j1))).t < (ev l (a' i)).t) with hd | hd
          · rw [decide_eq_true hd]
            have HD := Lib.hid hd
            clear hd
            go_wp2_with fail
            with_reducible refine HSY.out.mono ?_
            rintro e wz ⟨rfl, r4, q4⟩
            have HR4 := Lib.hid r4; have HQ4 := Lib.hid (HQy.out.trans q4)
            clear r4 q4
            go_wp2_with fail
            exact ⟨⟨j1, _, by omega, rfl, down_step HU2.out (by omega) (by omega) (by omega) HMN.out HD.out, HS2.out.swp (by omega) (by omega), fun k hk => (swp_o a' (by omega) (by omega)).trans (HK2.out k hk), HR4.out, HQ4.out⟩, by simp [intOf]; omega⟩
          · rw [decide_eq_false hd]
            have HD := Lib.hid hd
            clear hd
            go_wp2_with fail
            go_ret
            refine ⟨⟨_, rfl⟩, a', down_stop HU2.out fun c c0 cn hp => ?_, HS2.out, HK2.out, HRy.out, HQy.out⟩
            have h1 := HMN.out c c0 cn hp
            have h2 := HD.out
            unfold tk at h1 ⊢
            omega
      · have d3 : decide (((j1 : Int) + 1) < (n : Int)) = false := decide_eq_false (by omega)
        have HMN : Hid (∀ c, 0 < c → c < n → (c - 1) / 2 = i → tk l (a' j1) ≤ tk l (a' c)) := Lib.hid fun c c0 cn hp => by
          have hcc : c = j1 := by omega
          rw [hcc]
          exact Int.le_refl _
        obtain ⟨wx, hwx⟩ : ∃ wx, wx = wr := ⟨_, rfl⟩
        rw [← hwx] at HR2 HQ2
        rw [← hwx]
        clear hwx
        have HLE := Lib.hid (rless_at HR2.out l HM.out (HA.out _ HQ2.out) (show j1 < N by omega) (show i < N by omega) (HS2.out.lt HL.out j1 (by omega)) (HS2.out.lt HL.out i (by omega)))
        have HSW := Lib.hid fun W (hW : Below wx.heap.size wx W) => rswap_at (HR2.out.below hW) (show i < N by omega) (show j1 < N by omega)
        go_wp2_with fail
        rw [ej.out]
        with_reducible refine HLE.out.mono ?_
        rintro e wy ⟨rfl, by_⟩
        have HRy := Lib.hid (HR2.out.below by_)
        have HQy := Lib.hid (HQ2.out.trans (QX.of_below HR2.out.lt.2 by_))
        have HSY := Lib.hid (HSW.out _ by_)
        clear by_
        rcases Classical.em ((ev l (a' (j1))).t < (ev l (a' i)).t) with hd | hd
        · rw [decide_eq_true hd]
          have HD := Lib.hid hd
          clear hd
          go_wp2_with fail
          with_reducible refine HSY.out.mono ?_
          rintro e wz ⟨rfl, r4, q4⟩
          have HR4 := Lib.hid r4; have HQ4 := Lib.hid (HQy.out.trans q4)
          clear r4 q4
          go_wp2_with fail
          exact ⟨⟨j1, _, by omega, rfl, down_step HU2.out (by omega) (by omega) (by omega) HMN.out HD.out, HS2.out.swp (by omega) (by omega), fun k hk => (swp_o a' (by omega) (by omega)).trans (HK2.out k hk), HR4.out, HQ4.out⟩, by simp [intOf]; omega⟩
        · rw [decide_eq_false hd]
          have HD := Lib.hid hd
          clear hd
          go_wp2_with fail
          go_ret
          refine ⟨⟨_, rfl⟩, a', down_stop HU2.out fun c c0 cn hp => ?_, HS2.out, HK2.out, HRy.out, HQy.out⟩
          have h1 := HMN.out c c0 cn hp
          have h2 := HD.out
          unfold tk at h1 ⊢
          omega
    · have e0 : IntKind.i64.wrap ((2 : Int) * (i : Int)) = 2 * (i : Int) := wi64 _ (by omega) (by omega)
      have d1 : decide ((n : Int) ≤ 2 * (i : Int) + 1) = true := decide_eq_true (by omega)
      go_wp2_with fail
      go_ret
      exact ⟨⟨_, rfl⟩, a', down_stop HU2.out fun c c0 cn hp => by omega, HS2.out, HK2.out, HR2.out, HQ2.out⟩
end Go.Proofs.Ytaalinhkikmfaaa
end
