/- sets of numbers, kept as map[int]bool. -/
import Derived.Maps.RangeWalk
import Derived.Maps.OwnOps
import Derived.Maps.Views
import Derived.Carry
import Derived.Test.YtaalinhkikmfaaaSg
import Derived.Test.YtaalinhkikmfaaaCa
set_option linter.unusedSimpArgs false
set_option linter.unusedVariables false
namespace Go.Proofs.Ytaalinhkikmfaaa
open Go.RowKit
open Go.Maps (Keyed)

theorem nodup_below : ∀ (m : Nat) (l : List Nat), l.Nodup → (∀ x ∈ l, x < m) → l.length ≤ m
  | 0, l, _, h => by
    cases l with
    | nil => simp
    | cons x l => have := h x (by simp); omega
  | m + 1, l, hn, h => by
    have h1 := nodup_below m (l.erase m) (hn.erase m) (fun x hx => by
      have h2 := (hn.mem_erase_iff).1 hx
      have := h x h2.2
      omega)
    rw [List.length_erase] at h1
    split at h1 <;> omega

abbrev DU := DataW Unit
theorem intK : Keyed Try.prog 3 := Maps.int_keyed Try.underlying3
/-- a datum that is a set of numbers. -/
def SetD (D : DU) (S : Nat → Bool) : Prop :=
  (∀ kl, Maps.has D kl = true → ∃ k : Nat, kl = .int .i64 (k : Int) ∧ S k = true) ∧ (∀ k : Nat, S k = true → k ≤ 5000 ∧ Maps.has D (.int .i64 (k : Int)) = true) ∧
  (∀ kl, Maps.has D kl = true → ∀ z, D.atKey kl z = .lit (.bool true))
theorem setD_nil : SetD (.map []) (fun _ => false) := ⟨fun kl h => (by cases h), fun k h => (by cases h), fun kl h => (by cases h)⟩
theorem setD_look {D : DU} {S : Nat → Bool} (h : SetD D S) (k : Nat) : D.atKey (.int .i64 (k : Int)) (.lit (.bool false)) = .lit (.bool (S k)) := by
  cases e : S k with
  | true => exact h.2.2 _ (h.2.1 k e).2 _
  | false =>
    refine Maps.atKey_of_not_has ?_ _
    cases e2 : Maps.has D (.int .i64 (k : Int)) with
    | false => rfl
    | true =>
      obtain ⟨k', h1, h2⟩ := h.1 _ e2
      injection h1 with _ h1
      have : k = k' := by omega
      subst this
      rw [e] at h2; cases h2
theorem setD_put {D : DU} {S : Nat → Bool} (h : SetD D S) (hm : Maps.IsMap D) (k : Nat) (hk : k ≤ 5000) : SetD (D.put (.int .i64 (k : Int)) (.lit (.bool true))) (fun x => S x || decide (x = k)) := by
  have hlit : WideAt.IsKeyLit (.int .i64 (k : Int)) := trivial
  refine ⟨fun kl hkl => ?_, fun x hx => ?_, fun kl hkl z => ?_⟩
  · by_cases e : kl = .int .i64 (k : Int)
    · exact ⟨k, e, by simp⟩
    · rw [Maps.has_put_other e] at hkl
      obtain ⟨k', h1, h2⟩ := h.1 kl hkl
      exact ⟨k', h1, by simp [h2]⟩
  · by_cases e : x = k
    · subst e; exact ⟨hk, Maps.has_put_same hm hlit _⟩
    · have hx' : S x = true := by simpa [e] using hx
      obtain ⟨h1, h2⟩ := h.2.1 x hx'
      refine ⟨h1, ?_⟩
      rw [Maps.has_put_other (fun e' => e (by injection e' with _ e'; omega))]
      exact h2
  · by_cases e : kl = .int .i64 (k : Int)
    · subst e; exact Maps.atKey_put_same hm hlit _ _
    · rw [Maps.has_put_other e] at hkl
      rw [Maps.atKey_put_other e]
      exact h.2.2 kl hkl z
theorem setD_size {es : List (Lit × DU)} {S : Nat → Bool} (h : SetD (.map es) S) (hp : es.Pairwise (fun p q => p.1 ≠ q.1)) (hl : ∀ p ∈ es, WideAt.IsKeyLit p.1) : es.length ≤ 5001 := by
  have hk : ∀ p ∈ es, ∃ k : Nat, p.1 = .int .i64 (k : Int) ∧ k ≤ 5000 := fun p hp' => by
    have hh : Maps.has (.map es : DU) p.1 = true := by
      rw [Maps.has_eq, List.any_eq_true]
      exact ⟨p, hp', WideAt.sameKey_self (hl p hp')⟩
    obtain ⟨k, h2, h3⟩ := h.1 _ hh
    exact ⟨k, h2, (h.2.1 k h3).1⟩
  have key : List.length (es.map fun p => match p.1 with | .int _ x => x.toNat | _ => 0) ≤ 5001 := by
    refine nodup_below 5001 _ ?_ ?_
    · rw [List.Nodup, List.pairwise_map]
      refine List.Pairwise.imp_of_mem ?_ hp
      intro p q hp1 hq1 hne he
      obtain ⟨a, ha, _⟩ := hk p hp1
      obtain ⟨b, hb, _⟩ := hk q hq1
      rw [ha, hb] at he hne
      simp only [Int.toNat_natCast] at he
      subst he
      exact hne rfl
    · intro x hx
      obtain ⟨p, hp1, rfl⟩ := List.mem_map.1 hx
      obtain ⟨a, ha, hb⟩ := hk p hp1
      rw [ha]
      simp only [Int.toNat_natCast]
      omega
  simpa using key
/-- block b is a map that is a set of numbers. -/
def MapS (w : World) (b : Nat) (S : Nat → Bool) : Prop := ∃ D : DU, w.ownsMap Try.prog 3 (plainElem Try.prog 4) b 6000 D ∧ SetD D S
theorem MapS.of {w : World} {b n : Nat} {D : DU} {S : Nat → Bool} (h : w.ownsMap Try.prog 3 (plainElem Try.prog 4) b n D) (hs : SetD D S) : MapS w b S := by
  obtain ⟨es, he, hp, hl⟩ := h.entries intK
  obtain ⟨es', clock, h1, h2, h3, h4⟩ := h
  have h5 : es.length ≤ 5001 := setD_size (he ▸ hs) hp hl
  refine ⟨D, ⟨es', clock, h1, h2, ?_, h4⟩, hs⟩
  have h6 : es = (es'.toList.map (WideElems.rg Try.prog 3 (plainElem Try.prog 4))).foldr DataW.insert [] := by
    rw [he] at h4; injection h4
  have h7 := congrArg List.length h6
  rw [length_sorted] at h7
  simp at h7
  omega
theorem MapS.congr {w : World} {b : Nat} {S S' : Nat → Bool} (h : MapS w b S) (he : ∀ k, S k = S' k) : MapS w b S' := by
  have : S = S' := funext he
  exact this ▸ h
theorem MapS.made (w : World) : MapS (w.alloc (.map #[] 0)) w.heap.size (fun _ => false) := .of (World.ownsMap_made w _ _ _) setD_nil
theorem MapS.kept {w w' : World} {b : Nat} {S : Nat → Bool} {row : Option Nat} (h : MapS w b S) (hg : w.grownBy w' row) (hne : some b ≠ row) : MapS w' b S := by
  obtain ⟨D, h1, h2⟩ := h
  exact ⟨D, h1.kept hg hne, h2⟩
theorem MapS.ext {w w' : World} {b : Nat} {S : Nat → Bool} (h : MapS w b S) (hb : Below w.heap.size w w') : MapS w' b S :=
  h.kept (row := none) ⟨hb.os, hb.tape, hb.output, hb.size, fun k h _ => hb.block k h⟩ (by simp)
theorem MapS.lt {w : World} {b : Nat} {S : Nat → Bool} (h : MapS w b S) : b < w.heap.size := by
  obtain ⟨D, h1, h2⟩ := h
  exact h1.lt
theorem wf_small (k : Nat) (hk : k ≤ 5000) : (Lit.int .i64 (k : Int)).wf = true := by
  simp only [Lit.wf, Bool.and_eq_true, decide_eq_true_eq]
  have h1 : IntKind.i64.min = -9223372036854775808 := by decide
  have h2 : IntKind.i64.max = 9223372036854775807 := by decide
  omega
theorem key_small (k : Nat) (hk : k ≤ 5000) : keyOf Try.prog 3 (.int .i64 (k : Int)) = some (.int .i64 (k : Int)) := Maps.keyOf_int_mk Try.underlying3 (wf_small k hk)
theorem bool_inv {v : Value} {z : DU × List MemPlace} (h : plainElem Try.prog 4 v = some z) : ∃ c, v = .bool c ∧ z = (.lit (.bool c), []) := by
  unfold plainElem at h
  rw [show Try.prog.underlying 4 = some .bool from Try.underlying4] at h
  cases v <;> simp at h
  exact ⟨_, rfl, h.symm⟩
set_option maxRecDepth 100000 in
theorem MapS.look {w : World} {b : Nat} {S : Nat → Bool} (h : MapS w b S) (k : Nat) (hk : k ≤ 5000) : (Instr.lookup 75 (.map (some b)) (.int .i64 (k : Int)) false).run Try.prog w = .ok (.bool (S k)) w := by
  obtain ⟨D, h1, h2⟩ := h
  obtain ⟨v, ps, hrun, hv⟩ := h1.lookup intK Try.underlying75 (Try.zeroValue4 w) (plainElem_bool Try.underlying4 false) (key_small k hk)
  obtain ⟨c, rfl, hc⟩ := bool_inv hv
  rw [setD_look h2 k] at hc
  injection hc with hc _
  injection hc with hc
  injection hc with hc
  rw [hc]; exact hrun
theorem wpList_put {w : World} {ops : Array Oper} {rest : List Oper} {o : Oper} {a : Act} {Q : Exit → Act → World → Prop} {b : Nat} {S : Nat → Bool} (h : MapS w b S)
    (hg : o.guard = none) (m x v : Operand) (hop : o.op = Op.mapUpdate 75 m x v) (hm : a.eval m = .map (some b)) (k : Nat) (hk : k ≤ 5000) (hx : a.eval x = .int .i64 (k : Int)) (hv : a.eval v = .bool true)
    (hK : ∀ w', MapS w' b (fun y => S y || decide (y = k)) → w.grownBy w' (some b) → wpList Try.prog ops Q rest (a.put o.dst undef) w') :
    wpList Try.prog ops Q (o :: rest) a w := by
  obtain ⟨D, h1, h2⟩ := h
  exact wpList_mapUpdate_own w hg m x v _ hop _ _ intK Try.underlying75 _ b 6000 D hm h1 (by decide) _ _ _ hx hv (key_small k hk) (.lit (.bool true)) [] (plainElem_bool Try.underlying4 true)
    (fun w' h3 h4 => hK w' (.of h3 (setD_put h2 h1.isMap k hk)) h4)
/-- a range over a set, under way: what is still to come. -/
def RangeS (w : World) (b r : Nat) (S L : Nat → Bool) (cnt : Nat) : Prop := ∃ (D : DU) (left : Lit → Bool), w.ranges Try.prog 3 (plainElem Try.prog 4) b r 6000 D left cnt ∧ SetD D S ∧ ∀ k : Nat, left (.int .i64 (k : Int)) = L k
theorem RangeS.kept {w w' : World} {b r : Nat} {S L : Nat → Bool} {cnt : Nat} {row : Option Nat} (h : RangeS w b r S L cnt) (hg : w.grownBy w' row) (h1 : some b ≠ row) (h2 : some r ≠ row) : RangeS w' b r S L cnt := by
  obtain ⟨D, left, h3, h4, h5⟩ := h
  exact ⟨D, left, h3.kept hg h1 h2, h4, h5⟩
theorem RangeS.left_eq {w : World} {b r : Nat} {S L : Nat → Bool} {cnt : Nat} (h : RangeS w b r S L cnt) : w.rangeLeft b r = cnt := by
  obtain ⟨D, left, h3, h4, h5⟩ := h
  exact h3.left_eq
theorem RangeS.ne {w : World} {b r : Nat} {S L : Nat → Bool} {cnt : Nat} (h : RangeS w b r S L cnt) : r ≠ b := by
  obtain ⟨D, left, h3, h4, h5⟩ := h
  exact h3.ne
theorem RangeS.lt {w : World} {b r : Nat} {S L : Nat → Bool} {cnt : Nat} (h : RangeS w b r S L cnt) : r < w.heap.size := by
  obtain ⟨D, left, h3, h4, h5⟩ := h
  exact h3.lt
theorem wpList_rangeS {w : World} {ops : Array Oper} {rest : List Oper} {o : Oper} {a : Act} {Q : Exit → Act → World → Prop} {b : Nat} {S : Nat → Bool} (h : MapS w b S)
    (hg : o.guard = none) (m : Operand) (hop : o.op = Op.range 75 m) (hm : a.eval m = .map (some b))
    (hK : ∀ w' cnt, RangeS w' b w.heap.size S S cnt → w.grownBy w' none → w'.heap.size = w.heap.size + 1 → wpList Try.prog ops Q rest (a.put o.dst (.pointer (some ⟨w.heap.size, 0, none⟩))) w') :
    wpList Try.prog ops Q (o :: rest) a w := by
  obtain ⟨D, h1, h2⟩ := h
  refine wpList_range_own w hg m _ hop _ _ intK Try.underlying75 _ b 6000 D hm h1 ?_
  intro w' h3 h4 h5
  refine hK w' _ ⟨D, _, h3, h2, fun k => ?_⟩ h4 h5
  cases e : S k with
  | true => exact (h2.2.1 k e).2
  | false =>
    cases e2 : Maps.has D (.int .i64 (k : Int)) with
    | false => rfl
    | true =>
      obtain ⟨k', h6, h7⟩ := h2.1 _ e2
      injection h6 with _ h6
      have : k = k' := by omega
      subst this
      rw [e] at h7; cases h7
set_option maxRecDepth 100000 in
theorem wpList_nextS {w : World} {ops : Array Oper} {rest : List Oper} {o : Oper} {a : Act} {Q : Exit → Act → World → Prop} {b r : Nat} {S L : Nat → Bool} {cnt : Nat} (h : RangeS w b r S L cnt)
    (hg : o.guard = none) (it : Operand) (hop : o.op = Op.next it false) (hit : a.eval it = .pointer (some ⟨r, 0, none⟩))
    (hDone : (∀ k, L k = false) → wpList Try.prog ops Q rest (a.put o.dst (.tuple #[.bool false])) w)
    (hMore : ∀ (k : Nat) (w' : World) (cnt' : Nat), k ≤ 5000 → S k = true → L k = true → RangeS w' b r S (fun y => L y && !decide (y = k)) cnt' → cnt' < cnt →
      w.grownBy w' (some r) → w'.heap.size = w.heap.size → (Instr.entry (.pointer (some ⟨r, 0, none⟩))).run Try.prog w' = .ok (.tuple #[.int .i64 (k : Int), .bool true]) w' → wpList Try.prog ops Q rest (a.put o.dst (.tuple #[.bool true, .int .i64 (k : Int), .bool true])) w') :
    wpList Try.prog ops Q (o :: rest) a w := by
  obtain ⟨D, left, h1, h2, h3⟩ := h
  refine wpList_next_ranges w hg it hop _ intK _ (Value.int .i64) Value.bool (fun key kl hkey => by obtain ⟨x, rfl, _⟩ := Maps.keyOf_int_inv Try.underlying3 hkey; exact ⟨x, rfl⟩) (fun v y hv => by obtain ⟨c, rfl, _⟩ := bool_inv hv; exact ⟨c, rfl⟩) b r 6000 D left cnt hit h1 (fun _ hl => hDone fun k => by rw [← h3 k]; exact hl _) ?_
  intro x c kl y w' cnt' hkey hlk hv hat hrg hlt hgr hsz hen
  obtain ⟨x', ex, rfl, hwx⟩ := Maps.keyOf_int_inv Try.underlying3 hkey
  cases ex
  have hh := Maps.has_true_of_atKey hat
  obtain ⟨k, hk, hS⟩ := h2.1 _ hh
  injection hk with _ hk
  subst hk
  obtain ⟨c', ec, hy⟩ := bool_inv hv
  have h4 := hat (.lit (.bool false))
  rw [h2.2.2 _ hh, hy] at h4
  injection h4 with h4
  injection h4 with h4
  injection ec with ec
  subst ec
  subst h4
  refine hMore k w' cnt' (h2.2.1 k hS).1 hS (by rw [← h3 k]; exact hlk) ⟨D, _, hrg, h2, fun z => ?_⟩ hlt hgr hsz hen
  simp only [h3 z]
  congr 2
  by_cases e : z = k
  · subst e; simp [Lit.sameKey]
  · have : (Lit.int .i64 (z : Int)).sameKey (.int .i64 (k : Int)) = false := Maps.sameKey_ne (fun e' => e (by injection e' with _ e'; omega))
    rw [this]; simp [e]
end Go.Proofs.Ytaalinhkikmfaaa
