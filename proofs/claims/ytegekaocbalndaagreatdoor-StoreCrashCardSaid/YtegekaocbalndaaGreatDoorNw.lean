/- new blocks in drawn regions (as in XEg); 'append([]T{}, x...)' in the front of a drawn region (as in XLj). -/
import Derived.Test.YtegekaocbalndaaGreatDoorAs
set_option linter.unusedSimpArgs false
set_option linter.unusedVariables false
namespace Go.Proofs.YtegekaocbalndaaGreatDoor
open Go.RowKit
/-- a slice of its own block, made at once. -/
def NewR (B : Nat) (T : TypeId) (cs : Array Value) (n : Nat) (v : Value) (w : World) : Prop := ∃ g, v = .slice (some ⟨g, 0, none⟩) n n ∧ B ≤ g ∧ w.heap[g]? = some (.cells cs T (0, 0))
theorem NewR.keepsS (B : Nat) (T : TypeId) (cs : Array Value) (n : Nat) : KeepsS (NewR B T cs n) := fun v w w' ⟨g, h1, h2, h3⟩ hb => ⟨g, h1, h2, (hb.block g (lt_blk h3)).trans h3⟩
def OwnRS (B : Nat) (e : TypeId) (sz n : Nat) (xs : List Value) (v : Value) (w : World) : Prop := w.ownsRow B e sz v n xs
theorem OwnRS.keepsS (B : Nat) (e : TypeId) (sz n : Nat) (xs : List Value) : KeepsS (OwnRS B e sz n xs) := fun v w w' h hb => own_belowS h hb
theorem newR_alloc {B n : Nat} {T : TypeId} {cs : Array Value} {w0 W : World} (hW : Below w0.heap.size w0 W) (hB : B ≤ w0.heap.size) : StayS w0.heap.size W (W.alloc (.cells cs T)) ∧ ttHolds (.inr (NewR B T cs n)) (.slice (some ⟨W.heap.size, 0, none⟩) n n) (W.alloc (.cells cs T)) :=
  ⟨StayS.alloc hW _, _, rfl, Nat.le_trans hB hW.size, heap_alloc_new _ _⟩
/-- a pointer to its own block, made at once. -/
def NewP (B : Nat) (T : TypeId) (cs : Array Value) (v : Value) (w : World) : Prop := ∃ g, v = .pointer (some ⟨g, 0, none⟩) ∧ B ≤ g ∧ w.heap[g]? = some (.cells cs T (0, 0))
theorem NewP.keepsS (B : Nat) (T : TypeId) (cs : Array Value) : KeepsS (NewP B T cs) := fun v w w' ⟨g, h1, h2, h3⟩ hb => ⟨g, h1, h2, (hb.block g (lt_blk h3)).trans h3⟩
theorem newP_alloc {B : Nat} {T : TypeId} {cs : Array Value} {w0 W : World} (hW : Below w0.heap.size w0 W) (hB : B ≤ w0.heap.size) : StayS w0.heap.size W (W.alloc (.cells cs T)) ∧ ttHolds (.inr (NewP B T cs)) (.pointer (some ⟨W.heap.size, 0, none⟩)) (W.alloc (.cells cs T)) :=
  ⟨StayS.alloc hW _, _, rfl, Nat.le_trans hB hW.size, heap_alloc_new _ _⟩
theorem run_append_empty {P : Program} {t e : TypeId} {z : Value} {sz bytes : Nat} (E : ElS P t e z sz bytes) (w : World) (ty : TypeId) (a : Addr) (A : Option Addr) (m c : Nat) (hm : 0 < m) (h63 : m ≤ 1000000000000) (hbytes : bytes ≤ 100) :
    (Builtin.append_ #[t, t] ty #[.slice (some a) 0 0, .slice A m c]).run P w = (Builtin.append_ #[t, t] ty #[.slice none 0 0, .slice A m c]).run P w := by
  have hi := E.hi
  have hb : m * bytes ≤ 281474976710656 := Nat.le_trans (Nat.mul_le_mul h63 hbytes) (by omega)
  cases hq : P.info? e with
  | none => rw [hq] at hi; simp at hi
  | some i =>
    have hib : i.bytes = bytes := by rw [hq] at hi; simp at hi; exact hi.2.2
    have hn : Builtin.nextslicecap m 0 = m := by unfold Builtin.nextslicecap; rw [if_pos (by omega)]
    have hb2 : ¬ (2 ^ 48 < m * i.bytes) := by rw [hib]; omega
    have hm2 : ¬ m = 0 := by omega
    have hl : ∀ (W : World) (x : Addr), (loadCells x 0).run P W = .ok #[] W := fun W x => rfl
    simp [Builtin.append_, run_underlying E.ht, sizeOf, typeInfo, hq, Builtin.lenOf, Builtin.firstCells, hm2, hn, hb2, hl]
theorem run_append_zero {P : Program} {t e : TypeId} {z : Value} {sz bytes : Nat} (E : ElS P t e z sz bytes) (w : World) (ty : TypeId) (a : Addr) (A : Option Addr) (c : Nat) :
    (Builtin.append_ #[t, t] ty #[.slice (some a) 0 0, .slice A 0 c]).run P w = .ok (.slice (some a) 0 0) w := by
  have hi := E.hi
  cases hq : P.info? e with
  | none => rw [hq] at hi; simp at hi
  | some i =>
    have hl : ∀ (W : World) (x : Addr), (loadCells x 0).run P W = .ok #[] W := fun W x => rfl
    cases A <;> simp [Builtin.append_, run_underlying E.ht, sizeOf, typeInfo, hq, Builtin.lenOf, Builtin.firstCells, hl, storeCells]
/-- 'append([]T{}, x...)' in the front of a drawn region. -/
theorem relOp_append_emptyS {P : Program} {t e : TypeId} {z : Value} {sz bytes : Nat} (E : ElS P t e z sz bytes) {ops : Array Oper} {o : Oper} {a : Act} {w0 W : World} (hW : Below w0.heap.size w0 W) (hgd : o.guard = none) (s x : Operand)
    (ho : o.op = .call { callee := .builtin .append, args := #[s, x], argTypes := #[t, t] }) (v0 : Value) (hv0 : NewR w0.heap.size e #[] 0 v0 W) (hs : a.eval s = v0) (B : Nat) (A : Option Addr) (news : List Value) (m c : Nat) (hx : a.eval x = .slice A m c) (hm : news.length = m * sz) (hr : Rd W B A news)
    (hA : A = none → m = 0) (h1 : ∀ u ∈ news, u.oneCell' = true) (h63 : m ≤ 1000000000000) (hbytes : bytes ≤ 100) : relOpS P w0.heap.size ops o a (.inr (OwnRS w0.heap.size e sz m news)) W := by
  obtain ⟨g, rfl, hg, hb⟩ := hv0
  rcases Nat.eq_zero_or_pos m with h0 | h0
  · subst h0
    obtain rfl := List.eq_nil_of_length_eq_zero (by simpa using hm)
    have hrun := run_append_zero E W o.type ⟨g, 0, none⟩ A c
    unfold relOpS
    rw [if_pos (by simp [Region.wanted, hgd])]
    unfold execOp
    simp only [ho, resolve, invoke, builtin, Sem.run_bind, Sem.run_pure, Result.andThen_ok, List.map_toArray, List.map_cons, List.map_nil, hs, hx, hrun, relUponS]
    refine ⟨StayS.refl _ _, ?_⟩
    exact ⟨by simp, .inr ⟨g, 0, #[], rfl, hg, hb, Nat.le_refl _, by decide, by simp, by simp⟩⟩
  · obtain ⟨v', w', hrun, h2, h3, h4⟩ := run_append_srcS E W w0.heap.size o.type (.slice none 0 0) 0 [] (World.ownsRow_nil _ _ _ _) B A news m c hm hr hA h1 (by omega) hbytes hW.size
    rw [← run_append_empty E W o.type ⟨g, 0, none⟩ A m c h0 h63 hbytes] at hrun
    unfold relOpS
    rw [if_pos (by simp [Region.wanted, hgd])]
    unfold execOp
    simp only [ho, resolve, invoke, builtin, Sem.run_bind, Sem.run_pure, Result.andThen_ok, List.map_toArray, List.map_cons, List.map_nil, hs, hx, hrun, relUponS]
    refine ⟨StayS.of ⟨h3.os, h3.tape, h3.output, h3.size, fun k hk => h3.block k hk (by intro e; cases e)⟩ hW.size, ?_⟩
    show w'.ownsRow w0.heap.size e sz v' m news
    simpa using h2
end Go.Proofs.YtegekaocbalndaaGreatDoor
