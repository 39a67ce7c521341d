/- maps from 0, 1, .. K-1 to values. -/
import Derived.Maps.RangeWalk
import Derived.Maps.OwnOps
import Derived.Maps.OwnSet
import Derived.Maps.Views
import Derived.Carry
import Derived.Test.YtaalinhkikmfaaaE3
set_option linter.unusedSimpArgs false
set_option linter.unusedVariables false
namespace Go.Proofs.Ytaalinhkikmfaaa
open Go.RowKit

/-- what a map's datum is: its values as they are. -/
def HK : Value → Option (DataW Value × List MemPlace) := fun v => some (.held v, [])
def kvp (val : Nat → Value) (k : Nat) : Lit × DataW Value := (.int .i64 (k : Int), .held (val k))
def kv (K : Nat) (val : Nat → Value) : List (Lit × DataW Value) := (List.range K).map (kvp val)
theorem ksame (a b : Nat) : (Lit.int .i64 (a : Int)).sameKey (.int .i64 (b : Int)) = decide (a = b) := by
  simp only [Lit.sameKey]
  by_cases h : a = b
  · subst h; simp
  · have : ¬ (a : Int) = (b : Int) := by omega
    simp [h]
    exact this
theorem kv_find (K : Nat) (val : Nat → Value) (k : Nat) : (kv K val).find? (fun p => p.1.sameKey (.int .i64 (k : Int))) = if k < K then some (kvp val k) else none := by
  induction K with
  | zero => rfl
  | succ K ih =>
    unfold kv at ih ⊢
    rw [List.range_succ, List.map_append, List.find?_append, ih]
    by_cases h : k < K
    · rw [if_pos h, if_pos (by omega)]; rfl
    · rw [if_neg h]
      by_cases e : k = K
      · subst e
        rw [if_pos (by omega)]
        simp only [List.map_cons, List.map_nil, List.find?_cons, kvp, ksame, decide_true, Option.none_or]
      · rw [if_neg (by omega)]
        simp only [List.map_cons, List.map_nil, List.find?_cons, kvp, ksame, show ¬ K = k from fun h => e h.symm, decide_false, List.find?_nil, Option.none_or]
theorem kv_at (K : Nat) (val : Nat → Value) (k : Nat) (z : Value) : (DataW.map (kv K val)).atKey (.int .i64 (k : Int)) (.held z) = .held (if k < K then val k else z) := by
  simp only [DataW.atKey, kv_find]
  by_cases h : k < K
  · rw [if_pos h, if_pos h]; rfl
  · rw [if_neg h, if_neg h]
theorem kv_size (K : Nat) (val : Nat → Value) : Maps.size (.map (kv K val)) = K := by
  rw [Maps.size_eq]; unfold kv; simp
theorem ins_pass (x : Lit × DataW Value) : ∀ (ls bs : List (Lit × DataW Value)), (∀ a ∈ ls, Lit.before x.1 a.1 = false) → DataW.insert x (ls ++ bs) = ls ++ DataW.insert x bs
  | [], bs, _ => rfl
  | a :: ls, bs, h => by
    rw [List.cons_append, DataW.insert, if_neg (by rw [h a (by simp)]; decide), ins_pass x ls bs fun b hb => h b (by simp [hb])]
    rfl
theorem ins_front (x : Lit × DataW Value) : ∀ (bs : List (Lit × DataW Value)), (∀ b ∈ bs, Lit.before x.1 b.1 = true) → DataW.insert x bs = x :: bs
  | [], _ => rfl
  | b :: bs, h => by rw [DataW.insert, if_pos (h b (by simp))]
theorem kbefore (a b : Nat) : Lit.before (.int .i64 (a : Int)) (.int .i64 (b : Int)) = decide (a < b) := by
  simp only [Lit.before]
  by_cases h : a < b
  · rw [decide_eq_true h]; exact decide_eq_true (by omega)
  · rw [decide_eq_false h]; exact decide_eq_false (by omega)
theorem range_cut {n j : Nat} (h : j < n) : ∃ r, List.range n = List.range j ++ j :: r ∧ ∀ i ∈ r, j < i := by
  obtain ⟨d, rfl⟩ : ∃ d, n = j + (d + 1) := ⟨n - j - 1, by omega⟩
  refine ⟨((List.range d).map Nat.succ).map (j + ·), ?_, fun i hi => ?_⟩
  · rw [List.range_add, List.range_succ_eq_map]
    simp
  · simp only [List.map_map, List.mem_map, List.mem_range, Function.comp] at hi
    obtain ⟨a, _, rfl⟩ := hi
    omega
theorem kvp_upd (val : Nat → Value) (k : Nat) (v : Value) {l : List Nat} (h : ∀ i ∈ l, i ≠ k) : l.map (kvp (upd val k v)) = l.map (kvp val) := by
  refine List.map_congr_left fun i hi => ?_
  unfold kvp
  rw [upd_ne _ _ (h i hi)]
theorem kv_put_in (K : Nat) (val : Nat → Value) (k : Nat) (v : Value) (h : k < K) : (DataW.map (kv K val)).put (.int .i64 (k : Int)) (.held v) = .map (kv K (upd val k v)) := by
  show DataW.map (DataW.insert (.int .i64 (k : Int), .held v) ((kv K val).filter fun p => !p.1.sameKey (.int .i64 (k : Int)))) = _
  obtain ⟨r, hr, hgt⟩ := range_cut h
  have hlow : ∀ i ∈ List.range k, i ≠ k := fun i hi => by have := List.mem_range.1 hi; omega
  have e1 : (kv K val).filter (fun p => !p.1.sameKey (.int .i64 (k : Int))) = (List.range k).map (kvp val) ++ r.map (kvp val) := by
    unfold kv
    rw [hr, List.map_append, List.map_cons, List.filter_append, List.filter_cons]
    rw [List.filter_eq_self.2 (by
      intro a ha
      obtain ⟨i, hi, rfl⟩ := List.mem_map.1 ha
      simp only [kvp, ksame]
      rw [decide_eq_false (hlow i hi)]; rfl)]
    rw [List.filter_eq_self.2 (by
      intro a ha
      obtain ⟨i, hi, rfl⟩ := List.mem_map.1 ha
      simp only [kvp, ksame]
      rw [decide_eq_false (by have := hgt i hi; omega)]; rfl)]
    simp only [kvp, ksame, decide_true, Bool.not_true, Bool.false_eq_true, if_false]
  rw [e1, ins_pass, ins_front]
  · unfold kv
    rw [hr, List.map_append, List.map_cons, kvp_upd val k v hlow, kvp_upd val k v fun i hi => by have := hgt i hi; omega]
    simp only [kvp, upd_at]
  · intro b hb
    obtain ⟨i, hi, rfl⟩ := List.mem_map.1 hb
    simp only [kvp, kbefore]
    exact decide_eq_true (hgt i hi)
  · intro b hb
    obtain ⟨i, hi, rfl⟩ := List.mem_map.1 hb
    simp only [kvp, kbefore]
    exact decide_eq_false (by have := List.mem_range.1 hi; omega)
theorem kv_put_new (K : Nat) (val : Nat → Value) (v : Value) : (DataW.map (kv K val)).put (.int .i64 (K : Int)) (.held v) = .map (kv (K + 1) (upd val K v)) := by
  show DataW.map (DataW.insert (.int .i64 (K : Int), .held v) ((kv K val).filter fun p => !p.1.sameKey (.int .i64 (K : Int)))) = _
  have hlow : ∀ i ∈ List.range K, i ≠ K := fun i hi => by have := List.mem_range.1 hi; omega
  have e1 : (kv K val).filter (fun p => !p.1.sameKey (.int .i64 (K : Int))) = kv K val := List.filter_eq_self.2 (by
    intro a ha
    obtain ⟨i, hi, rfl⟩ := List.mem_map.1 ha
    simp only [kvp, ksame]
    rw [decide_eq_false (hlow i hi)]; rfl)
  have e2 := ins_pass (.int .i64 (K : Int), .held v) (kv K val) [] (by
    intro b hb
    obtain ⟨i, hi, rfl⟩ := List.mem_map.1 hb
    simp only [kvp, kbefore]
    exact decide_eq_false (by have := List.mem_range.1 hi; omega))
  rw [List.append_nil] at e2
  rw [e1, e2]
  unfold kv
  rw [List.range_succ, List.map_append, kvp_upd val K v hlow]
  simp only [kvp, upd_at, List.map_cons, List.map_nil]
  rfl
/-- block m is a map from 0, .. K-1: just these. -/
def MapK (P : Program) (kt : TypeId) (w : World) (m K : Nat) (val : Nat → Value) : Prop := w.ownsMap P kt HK m K (.map (kv K val))
theorem MapK.of {P : Program} {kt : TypeId} {w : World} {m n K : Nat} {val : Nat → Value} (h : w.ownsMap P kt HK m n (.map (kv K val))) : MapK P kt w m K val := by
  obtain ⟨es', clock, h1, h2, h3, h4⟩ := h
  refine ⟨es', clock, h1, h2, ?_, h4⟩
  injection h4 with h6
  have h7 := congrArg List.length h6
  rw [length_sorted] at h7
  simp [kv] at h7
  omega
theorem MapK.made (P : Program) (kt : TypeId) (w : World) (val : Nat → Value) : MapK P kt (w.alloc (.map #[] 0)) w.heap.size 0 val := .of (World.ownsMap_made w P kt HK)
theorem MapK.lt {P : Program} {kt : TypeId} {w : World} {m K : Nat} {val : Nat → Value} (h : MapK P kt w m K val) : m < w.heap.size := World.ownsMap.lt h
theorem MapK.at {P : Program} {kt : TypeId} {w w' : World} {m K : Nat} {val : Nat → Value} (h : MapK P kt w m K val) (hh : w'.heap[m]? = w.heap[m]?) : MapK P kt w' m K val := by
  obtain ⟨es, clock, h1, h2⟩ := h
  exact ⟨es, clock, hh.trans h1, h2⟩
theorem MapK.look {P : Program} {kt t e : TypeId} {w : World} {m K : Nat} {val : Nat → Value} (h : MapK P kt w m K val) (hk : Maps.Keyed P kt) (ht : P.underlying t = some (.map kt e)) {z : Value} (hz : (zeroValue e).run P w = .ok z w) {key : Value} {k : Nat} (hkey : keyOf P kt key = some (.int .i64 (k : Int))) :
    (Instr.lookup t (.map (some m)) key false).run P w = .ok (if k < K then val k else z) w := by
  obtain ⟨v, ps, h1, h2⟩ := World.ownsMap.lookup h hk ht hz (zd := .held z) (zp := []) rfl hkey
  rw [kv_at] at h2
  unfold HK at h2
  injection h2 with h2
  injection h2 with h2 _
  injection h2 with h2
  rw [h1, h2]
theorem MapK.store {P : Program} {kt t e : TypeId} {w : World} {m K : Nat} {val : Nat → Value} (h : MapK P kt w m K val) (hk : Maps.Keyed P kt) (ht : P.underlying t = some (.map kt e)) (hn : K < maxLen) {key v : Value} {k : Nat} (hkey : keyOf P kt key = some (.int .i64 (k : Int))) (hkK : k ≤ K) :
    ∃ w', (Instr.mapUpdate t (.map (some m)) key v).run P w = .ok () w' ∧ MapK P kt w' m (if k < K then K else K + 1) (upd val k v) ∧ w.mapTurned w' m := by
  obtain ⟨w', h1, h2, h3⟩ := World.ownsMap.store h hk ht hn hkey (val := v) (d := .held v) (ps := []) rfl
  by_cases hlt : k < K
  · rw [kv_put_in K val k v hlt] at h2
    exact ⟨w', h1, by rw [if_pos hlt]; exact .of h2, h3⟩
  · obtain rfl : k = K := by omega
    rw [kv_put_new] at h2
    exact ⟨w', h1, by rw [if_neg hlt]; exact .of h2, h3⟩
end Go.Proofs.Ytaalinhkikmfaaa
