/- ClockOrders: what its walk uses. -/
import Derived.Test.YtaalinhkikmfaaaCq
set_option linter.unusedSimpArgs false
set_option linter.unusedVariables false
namespace Go.Proofs.Ytaalinhkikmfaaa
open Go.RowKit

theorem take_ev (l : List Ev) (k : Nat) (h : k < l.length) : l.take (k + 1) = l.take k ++ [ev l k] := by
  rw [List.take_add_one]
  simp [ev, List.getD_eq_getElem?_getD, List.getElem?_eq_getElem h]
theorem wrong_of {l m : List Ev} {n : Int} (h : wrongE l n = 0) (hl : m.length ≤ 1024) (hm : ∀ i, i < m.length → ∃ j, j < l.length ∧ ev m i = ev l j) : wrongE m n = 0 := by
  obtain ⟨h1, h2, h3, h4⟩ := wrong_ok h
  have hb : badL m n = false := badL_no fun i hi => by
    obtain ⟨j, hj, e⟩ := hm i hi
    have := good_at h4 hj
    rw [e]
    simp only [badE, Bool.or_eq_false_iff, decide_eq_false_iff_not]
    omega
  unfold wrongE
  rw [if_neg (by omega), if_neg (by omega), hb]
  simp
theorem wrong_take {l : List Ev} {n : Int} (h : wrongE l n = 0) (k : Nat) (hk : k ≤ l.length) : wrongE (l.take k) n = 0 := by
  obtain ⟨_, _, h3, _⟩ := wrong_ok h
  refine wrong_of h (by simp; omega) fun i hi => ?_
  have : i < k := by simp at hi; omega
  exact ⟨i, by omega, ev_take l k i this⟩
def swL (l : List Ev) (a : Nat) : List Ev := (List.range l.length).map fun i => ev l (sw a i)
theorem swL_length (l : List Ev) (a : Nat) : (swL l a).length = l.length := by simp [swL]
theorem ev_past (l : List Ev) (i : Nat) (h : l.length ≤ i) : ev l i = Ev.zero := by unfold ev; rw [List.getD_eq_getElem?_getD, List.getElem?_eq_none h]; rfl
theorem ev_swL (l : List Ev) (a : Nat) (ha : a + 1 < l.length) (i : Nat) : ev (swL l a) i = ev l (sw a i) := by
  by_cases h : i < l.length
  · unfold swL
    rw [ev, List.getD_eq_getElem?_getD, List.getElem?_map, List.getElem?_range h]; rfl
  · rw [ev_past _ _ (by rw [swL_length]; omega), ev_past _ _ (by unfold sw; split <;> (try split) <;> omega)]
theorem sw_lt {a m i : Nat} (ha : a + 1 < m) (h : i < m) : sw a i < m := by unfold sw; split <;> (try split) <;> omega
theorem wrong_swL {l : List Ev} {n : Int} (h : wrongE l n = 0) (a : Nat) (ha : a + 1 < l.length) : wrongE (swL l a) n = 0 := by
  obtain ⟨_, _, h3, _⟩ := wrong_ok h
  refine wrong_of h (by rw [swL_length]; omega) fun i hi => ?_
  rw [swL_length] at hi
  exact ⟨sw a i, sw_lt ha hi, ev_swL l a ha i⟩
/-- rows of numbers, each in a block of its own. -/
def Outs (w : World) (vs : List Value) (n : Nat) (c : Nat → Nat → Nat) : Prop := ∀ i, i < vs.length → ∃ g cur, vs[i]? = some (.slice (some ⟨g, 0, none⟩) n n) ∧ w.heap[g]? = some (.cells cur 3 (0, 0)) ∧ ∀ t, t < n → cur[t]? = some (.int .i64 (c i t : Nat))
theorem Outs.below {w w' : World} {vs : List Value} {n : Nat} {c : Nat → Nat → Nat} (h : Outs w vs n c) (hb : Below w.heap.size w w') : Outs w' vs n c := fun i hi => by
  obtain ⟨g, cur, h1, h2, h3⟩ := h i hi
  exact ⟨g, cur, h1, (hb.block g (lt_blk h2)).trans h2, h3⟩
theorem Outs.grown {w w' : World} {vs : List Value} {n B m : Nat} {c : Nat → Nat → Nat} {v : Value} {xs : List Value} (h : Outs w vs n c) (ho : w.ownsRow B 23 1 v m xs) (hb : w.grownBy w' v.ownBlock) : Outs w' vs n c := fun i hi => by
  obtain ⟨g, cur, h1, h2, h3⟩ := h i hi
  refine ⟨g, cur, h1, (hb.block g (lt_blk h2) ?_).trans h2, h3⟩
  rcases ho.2 with ⟨rfl, _⟩ | ⟨g', cap, cur', rfl, _, hg', _⟩
  · simp [Value.ownBlock]
  · simp only [Value.ownBlock]
    intro e
    injection e with e
    subst e
    rw [h2] at hg'
    injection hg' with h5
    injection h5 with _ h6
    exact absurd h6 (by decide)
theorem Outs.snoc {w : World} {vs : List Value} {n g k : Nat} {c : Nat → Nat → Nat} {cur : Array Value} (h : Outs w vs n c) (hk : vs.length = k) (hg : w.heap[g]? = some (.cells cur 3 (0, 0))) (hc : ∀ t, t < n → cur[t]? = some (.int .i64 (c k t : Nat))) : Outs w (vs ++ [.slice (some ⟨g, 0, none⟩) n n]) n c := fun i hi => by
  subst hk
  by_cases e : i < vs.length
  · obtain ⟨g', cur', h1, h2⟩ := h i e
    exact ⟨g', cur', by rw [List.getElem?_append_left e]; exact h1, h2⟩
  · obtain rfl : i = vs.length := by simp at hi; omega
    exact ⟨g, cur, by simp, hg, hc⟩
theorem Outs.clk {w : World} {vs : List Value} {n B k : Nat} {c : Nat → Nat → Nat} {v : Value} (h : Outs w vs n c) (ho : w.ownsRow B 23 1 v k vs) : ∃ A cap, v = .slice A k cap ∧ Clk w w.heap.size A k n c := by
  obtain ⟨A, cap, rfl, hr, _, _⟩ := own_rd ho
  refine ⟨A, cap, rfl, fun i hi => ?_⟩
  have hl := ho.1
  obtain ⟨g, cur, h1, h2, h3⟩ := h i (by omega)
  obtain ⟨b, o, e, hb, hc⟩ := hr i _ h1
  exact ⟨b, o, g, 0, n, e, hb, lt_blk h2, hc, fun t ht => by rw [cell_blk h2, Nat.zero_add]; exact h3 t ht⟩
theorem own_same {w : World} {B n : Nat} {e : TypeId} {v : Value} {xs : List Value} (h : w.ownsRow B e 1 v n xs) (B' : Nat) (hB : B' ≤ B) : w.ownsRow B' e 1 v n xs := ⟨h.1, h.2.imp_right fun ⟨g, cap, cur, h1, h2, h3⟩ => ⟨g, cap, cur, h1, by omega, h3⟩⟩
theorem drew_heap (w : World) : w.drew.heap = w.heap := rfl
/-- two neighbours changed about, in memory. -/
def sw6 (w : World) (g a b : Nat) (x y : Ev) : World := ((((((w.setCell ⟨g, a * 3, none⟩ (.int .i64 y.t)).setCell ⟨g, a * 3 + 1, none⟩ (.int .i64 y.k)).setCell ⟨g, a * 3 + 2, none⟩ (.int .i64 y.o)).setCell ⟨g, b * 3, none⟩ (.int .i64 x.t)).setCell ⟨g, b * 3 + 1, none⟩ (.int .i64 x.k)).setCell ⟨g, b * 3 + 2, none⟩ (.int .i64 x.o)).drew
theorem sw6_grown (w : World) (g a b : Nat) (x y : Ev) : w.grownBy (sw6 w g a b x y) (some g) := by
  unfold sw6
  exact grown_drew (grown_setCell (grown_setCell (grown_setCell (grown_setCell (grown_setCell (grown_setCell (World.grownBy.refl w (some g)) (p := ⟨g, a * 3, none⟩) rfl (.int .i64 y.t)) (p := ⟨g, a * 3 + 1, none⟩) rfl (.int .i64 y.k)) (p := ⟨g, a * 3 + 2, none⟩) rfl (.int .i64 y.o)) (p := ⟨g, b * 3, none⟩) rfl (.int .i64 x.t)) (p := ⟨g, b * 3 + 1, none⟩) rfl (.int .i64 x.k)) (p := ⟨g, b * 3 + 2, none⟩) rfl (.int .i64 x.o))
theorem sw6_evs {w : World} {g a k B : Nat} {l : List Ev} {cur : Array Value} (hg : w.heap[g]? = some (.cells cur 50 (0, 0))) (htk : cur.toList.take (k * 3) = evcells l) (hk : k = l.length) (ha : a + 1 < k) (hsz : k * 3 ≤ cur.size) (hB : g < B) : Evs (sw6 w g a (a + 1) (ev l a) (ev l (a + 1))) B (some ⟨g, 0, none⟩) (swL l a) := by
  have h5 := set_blk (set_blk (set_blk (set_blk (set_blk (set_blk hg (a * 3) (.int .i64 (ev l (a + 1)).t)) (a * 3 + 1) (.int .i64 (ev l (a + 1)).k)) (a * 3 + 2) (.int .i64 (ev l (a + 1)).o)) ((a + 1) * 3) (.int .i64 (ev l a).t)) ((a + 1) * 3 + 1) (.int .i64 (ev l a).k)) ((a + 1) * 3 + 2) (.int .i64 (ev l a).o)
  have h6 : (sw6 w g a (a + 1) (ev l a) (ev l (a + 1))).heap[g]? = _ := (show _ = _ by unfold sw6; rw [drew_heap]).trans h5
  have old : ∀ j, j < k * 3 → cur[j]? = some (evc (ev l (j / 3)) (j % 3)) := fun j hj => by
    rw [← evcells_get l j (by omega), ← htk, List.getElem?_take, if_pos hj]; simp
  intro i hi
  rw [swL_length, ← hk] at hi
  refine ⟨g, 0, rfl, hB, ?_⟩
  rw [ev_swL l a (by omega), Nat.zero_add, cell_blk h6, cell_blk h6, cell_blk h6]
  by_cases e1 : i = a
  · subst e1
    rw [show sw i i = i + 1 by simp [sw]]
    refine ⟨?_, ?_, ?_⟩
    · rw [Array.getElem?_setIfInBounds_ne (by omega), Array.getElem?_setIfInBounds_ne (by omega), Array.getElem?_setIfInBounds_ne (by omega), Array.getElem?_setIfInBounds_ne (by omega), Array.getElem?_setIfInBounds_ne (by omega), Array.getElem?_setIfInBounds_self_of_lt (by omega)]
    · rw [Array.getElem?_setIfInBounds_ne (by omega), Array.getElem?_setIfInBounds_ne (by omega), Array.getElem?_setIfInBounds_ne (by omega), Array.getElem?_setIfInBounds_ne (by omega), Array.getElem?_setIfInBounds_self_of_lt (by simp; omega)]
    · rw [Array.getElem?_setIfInBounds_ne (by omega), Array.getElem?_setIfInBounds_ne (by omega), Array.getElem?_setIfInBounds_ne (by omega), Array.getElem?_setIfInBounds_self_of_lt (by simp; omega)]
  by_cases e2 : i = a + 1
  · subst e2
    rw [show sw a (a + 1) = a by simp [sw]]
    refine ⟨?_, ?_, ?_⟩
    · rw [Array.getElem?_setIfInBounds_ne (by omega), Array.getElem?_setIfInBounds_ne (by omega), Array.getElem?_setIfInBounds_self_of_lt (by simp; omega)]
    · rw [Array.getElem?_setIfInBounds_ne (by omega), Array.getElem?_setIfInBounds_self_of_lt (by simp; omega)]
    · rw [Array.getElem?_setIfInBounds_self_of_lt (by simp; omega)]
  · rw [show sw a i = i by unfold sw; rw [if_neg e1, if_neg e2]]
    refine ⟨?_, ?_, ?_⟩
    · rw [Array.getElem?_setIfInBounds_ne (by omega), Array.getElem?_setIfInBounds_ne (by omega), Array.getElem?_setIfInBounds_ne (by omega), Array.getElem?_setIfInBounds_ne (by omega), Array.getElem?_setIfInBounds_ne (by omega), Array.getElem?_setIfInBounds_ne (by omega), old _ (by omega), show i * 3 / 3 = i by omega, show i * 3 % 3 = 0 by omega]; rfl
    · rw [Array.getElem?_setIfInBounds_ne (by omega), Array.getElem?_setIfInBounds_ne (by omega), Array.getElem?_setIfInBounds_ne (by omega), Array.getElem?_setIfInBounds_ne (by omega), Array.getElem?_setIfInBounds_ne (by omega), Array.getElem?_setIfInBounds_ne (by omega), old _ (by omega), show (i * 3 + 1) / 3 = i by omega, show (i * 3 + 1) % 3 = 1 by omega]; rfl
    · rw [Array.getElem?_setIfInBounds_ne (by omega), Array.getElem?_setIfInBounds_ne (by omega), Array.getElem?_setIfInBounds_ne (by omega), Array.getElem?_setIfInBounds_ne (by omega), Array.getElem?_setIfInBounds_ne (by omega), Array.getElem?_setIfInBounds_ne (by omega), old _ (by omega), show (i * 3 + 2) / 3 = i by omega, show (i * 3 + 2) % 3 = 2 by omega]; rfl
/-- two neighbouring rows changed about. -/
def sw2 (w : World) (g a b : Nat) (x y : Value) : World := ((w.setCell ⟨g, a, none⟩ y).setCell ⟨g, b, none⟩ x).drew
theorem sw2_grown (w : World) (g a b : Nat) (x y : Value) : w.grownBy (sw2 w g a b x y) (some g) := by
  unfold sw2
  exact grown_drew (grown_setCell (grown_setCell (World.grownBy.refl w (some g)) (p := ⟨g, a, none⟩) rfl y) (p := ⟨g, b, none⟩) rfl x)
theorem sw2_clk {w : World} {h g a k n : Nat} {l : List Ev} {cur ccur : Array Value} (hg : w.heap[g]? = some (.cells cur 23 (0, 0))) (hh : w.heap[h]? = some (.cells ccur 3 (0, 0))) (htk : cur.toList.take (k * 1) = rowVs h n k) (hk : k = l.length) (ha : a + 1 < k) (hsz : k ≤ cur.size)
    (hc : ∀ i, i < k → ∀ t, t < n → ccur[i * n + t]? = some (.int .i64 (clk l i t : Nat))) : Clk (sw2 w g a (a + 1) (rowV h n a) (rowV h n (a + 1))) w.heap.size (some ⟨g, 0, none⟩) k n (fun i t => clk l (sw a i) t) := by
  have h1 := set_blk (set_blk hg a (rowV h n (a + 1))) (a + 1) (rowV h n a)
  have h2 : (sw2 w g a (a + 1) (rowV h n a) (rowV h n (a + 1))).heap[g]? = _ := (show _ = _ by unfold sw2; rw [drew_heap]).trans h1
  have hne : g ≠ h := by
    rintro rfl
    rw [hg] at hh
    injection hh with h5
    injection h5 with _ h6
    exact absurd h6 (by decide)
  have hh2 : (sw2 w g a (a + 1) (rowV h n a) (rowV h n (a + 1))).heap[h]? = some (.cells ccur 3 (0, 0)) := ((sw2_grown w g a (a + 1) _ _).block h (lt_blk hh) (by intro e; injection e with e; exact hne e.symm)).trans hh
  have old : ∀ j, j < k → cur[j]? = some (rowV h n j) := fun j hj => by
    rw [← rowVs_get h n k j hj, ← htk, List.getElem?_take, if_pos (by omega)]; simp
  intro i hi
  refine ⟨g, 0, h, sw a i * n, n, rfl, lt_blk hg, lt_blk hh, ?_, fun t ht => by rw [cell_blk hh2]; exact hc _ (sw_lt ha hi) t ht⟩
  rw [Nat.zero_add, cell_blk h2]
  by_cases e1 : i = a
  · subst e1
    rw [show sw i i = i + 1 by simp [sw], Array.getElem?_setIfInBounds_ne (by omega), Array.getElem?_setIfInBounds_self_of_lt (by omega)]; rfl
  by_cases e2 : i = a + 1
  · subst e2
    rw [show sw a (a + 1) = a by simp [sw], Array.getElem?_setIfInBounds_self_of_lt (by simp; omega)]; rfl
  · rw [show sw a i = i by unfold sw; rw [if_neg e1, if_neg e2], Array.getElem?_setIfInBounds_ne (by omega), Array.getElem?_setIfInBounds_ne (by omega), old i hi]; rfl
end Go.Proofs.Ytaalinhkikmfaaa
