/- ClockOrders: what its walk uses. -/
import Derived.Test.YtmllmfjdbfikoaaCq
set_option linter.unusedSimpArgs false
set_option linter.unusedVariables false
namespace Go.Proofs.Ytmllmfjdbfikoaa
open Go.RowKit

theorem take_ev (l : List Ev) (k : Nat) (h : k < l.length) : l.take (k + 1) = l.take k ++ [ev l k] := by
  rw [List.take_add_one]
  simp [ev, List.getD_eq_getElem?_getD, List.getElem?_eq_getElem h]
theorem wrong_of {l m : List Ev} {n : Int} (h : wrongE l n = 0) (hl : m.length ≤ 1024) (hm : ∀ i, i < m.length → ∃ j, j < l.length ∧ ev m i = ev l j) : wrongE m n = 0 := by
  obtain ⟨h1, h2, h3, h4⟩ := wrong_ok h
  have hb : badL m n = false := badL_no fun i hi => by
    obtain ⟨j, hj, e⟩ := hm i hi
    have := good_at h4 hj
    rw [e]
    simp only [badE, Bool.or_eq_false_iff, decide_eq_false_iff_not]
    omega
  unfold wrongE
  rw [if_neg (by omega), if_neg (by omega), hb]
  simp
theorem wrong_take {l : List Ev} {n : Int} (h : wrongE l n = 0) (k : Nat) (hk : k ≤ l.length) : wrongE (l.take k) n = 0 := by
  obtain ⟨_, _, h3, _⟩ := wrong_ok h
  refine wrong_of h (by simp; omega) fun i hi => ?_
  have : i < k := by simp at hi; omega
  exact ⟨i, by omega, ev_take l k i this⟩
def swL (l : List Ev) (a : Nat) : List Ev := (List.range l.length).map fun i => ev l (sw a i)
theorem swL_length (l : List Ev) (a : Nat) : (swL l a).length = l.length := by simp [swL]
theorem ev_past (l : List Ev) (i : Nat) (h : l.length ≤ i) : ev l i = Ev.zero := by unfold ev; rw [List.getD_eq_getElem?_getD, List.getElem?_eq_none h]; rfl
theorem ev_swL (l : List Ev) (a : Nat) (ha : a + 1 < l.length) (i : Nat) : ev (swL l a) i = ev l (sw a i) := by
  by_cases h : i < l.length
  · unfold swL
    rw [ev, List.getD_eq_getElem?_getD, List.getElem?_map, List.getElem?_range h]; rfl
  · rw [ev_past _ _ (by rw [swL_length]; omega), ev_past _ _ (by unfold sw; split <;> (try split) <;> omega)]
theorem sw_lt {a m i : Nat} (ha : a + 1 < m) (h : i < m) : sw a i < m := by unfold sw; split <;> (try split) <;> omega
theorem wrong_swL {l : List Ev} {n : Int} (h : wrongE l n = 0) (a : Nat) (ha : a + 1 < l.length) : wrongE (swL l a) n = 0 := by
  obtain ⟨_, _, h3, _⟩ := wrong_ok h
  refine wrong_of h (by rw [swL_length]; omega) fun i hi => ?_
  rw [swL_length] at hi
  exact ⟨sw a i, sw_lt ha hi, ev_swL l a ha i⟩
/-- rows of numbers, each in a block of its own. -/
def Outs (w : World) (vs : List Value) (n : Nat) (c : Nat → Nat → Nat) : Prop := ∀ i, i < vs.length → ∃ g cur, vs[i]? = some (.slice (some ⟨g, 0, none⟩) n n) ∧ w.heap[g]? = some (.cells cur 3 (0, 0)) ∧ ∀ t, t < n → cur[t]? = some (.int .i64 (c i t : Nat))
theorem Outs.below {w w' : World} {vs : List Value} {n : Nat} {c : Nat → Nat → Nat} (h : Outs w vs n c) (hb : Below w.heap.size w w') : Outs w' vs n c := fun i hi => by
  obtain ⟨g, cur, h1, h2, h3⟩ := h i hi
  exact ⟨g, cur, h1, (hb.block g (lt_blk h2)).trans h2, h3⟩
theorem Outs.grown {w w' : World} {vs : List Value} {n B m : Nat} {c : Nat → Nat → Nat} {v : Value} {xs : List Value} (h : Outs w vs n c) (ho : w.ownsRow B 28 1 v m xs) (hb : w.grownBy w' v.ownBlock) : Outs w' vs n c := fun i hi => by
  obtain ⟨g, cur, h1, h2, h3⟩ := h i hi
  refine ⟨g, cur, h1, (hb.block g (lt_blk h2) ?_).trans h2, h3⟩
  rcases ho.2 with ⟨rfl, _⟩ | ⟨g', cap, cur', rfl, _, hg', _⟩
  · simp [Value.ownBlock]
  · simp only [Value.ownBlock]
    intro e
    injection e with e
    subst e
    rw [h2] at hg'
    injection hg' with h5
    injection h5 with _ h6
    exact absurd h6 (by decide)
theorem Outs.snoc {w : World} {vs : List Value} {n g k : Nat} {c : Nat → Nat → Nat} {cur : Array Value} (h : Outs w vs n c) (hk : vs.length = k) (hg : w.heap[g]? = some (.cells cur 3 (0, 0))) (hc : ∀ t, t < n → cur[t]? = some (.int .i64 (c k t : Nat))) : Outs w (vs ++ [.slice (some ⟨g, 0, none⟩) n n]) n c := fun i hi => by
  subst hk
  by_cases e : i < vs.length
  · obtain ⟨g', cur', h1, h2⟩ := h i e
    exact ⟨g', cur', by rw [List.getElem?_append_left e]; exact h1, h2⟩
  · obtain rfl : i = vs.length := by simp at hi; omega
    exact ⟨g, cur, by simp, hg, hc⟩
theorem Outs.clk {w : World} {vs : List Value} {n B k : Nat} {c : Nat → Nat → Nat} {v : Value} (h : Outs w vs n c) (ho : w.ownsRow B 28 1 v k vs) : ∃ A cap, v = .slice A k cap ∧ Clk w w.heap.size A k n c := by
  obtain ⟨A, cap, rfl, hr, _, _⟩ := own_rd ho
  refine ⟨A, cap, rfl, fun i hi => ?_⟩
  have hl := ho.1
  obtain ⟨g, cur, h1, h2, h3⟩ := h i (by omega)
  obtain ⟨b, o, e, hb, hc⟩ := hr i _ h1
  exact ⟨b, o, g, 0, n, e, hb, lt_blk h2, hc, fun t ht => by rw [cell_blk h2, Nat.zero_add]; exact h3 t ht⟩
theorem own_same {w : World} {B n : Nat} {e : TypeId} {v : Value} {xs : List Value} (h : w.ownsRow B e 1 v n xs) (B' : Nat) (hB : B' ≤ B) : w.ownsRow B' e 1 v n xs := ⟨h.1, h.2.imp_right fun ⟨g, cap, cur, h1, h2, h3⟩ => ⟨g, cap, cur, h1, by omega, h3⟩⟩
end Go.Proofs.Ytmllmfjdbfikoaa
