/- norm.Least. -/
import Derived.Test.YtaalinhkikmfaaaEb
import Derived.Test.YtaalinhkikmfaaaSta
set_option linter.unusedSimpArgs false
set_option linter.unusedVariables false
namespace Go.Proofs.Ytaalinhkikmfaaa
open Go.RowKit

/-- 'append(s, x)', the spare cells told. -/
theorem wpList_append_oneX {P : Program} {t e : TypeId} {z : Value} {bytes : Nat} (E : El P t e z bytes) {ops : Array Oper} {rest : List Oper} {o : Oper} {a : Act} {Q : Exit → Act → World → Prop} {w : World} (hgd : o.guard = none) (s x : Operand)
    (ho : o.op = .call { callee := .builtin .append, args := #[s, x], argTypes := #[t, t] }) (base : Nat) (u : Value) (hu : u.oneCell' = true)
    (v : Value) (n : Nat) (xs : List Value) (hs : a.eval s = v) (hown : w.ownsRow base e 1 v n xs) (hsp : Spare z n v w) (hx : a.eval x = .slice (some ⟨w.heap.size, 0, none⟩) 1 1)
    (h63 : n ≤ 999999999999) (hbytes : bytes ≤ 100) (hbase : base ≤ w.heap.size)
    (h : ∀ v' w', w'.ownsRow base e 1 v' (n + 1) (xs ++ [u]) → w.grownBy w' v.ownBlock → (v'.ownBlock = v.ownBlock ∨ ∃ b, v'.ownBlock = some b ∧ w.heap.size ≤ b ∧ b < w'.heap.size) → Spare z (n + 1) v' w' → wpList P ops Q rest (a.put o.dst v') w') :
    wpList P ops Q (o :: rest) a (w.alloc (.cells #[u] e)) := by
  have hcell : ∀ j y, [u][j]? = some y → (w.alloc (.cells #[u] e)).cell? ((⟨w.heap.size, 0, none⟩ : Addr).add j) = some y := by
    intro j y hy
    match j, hy with
    | 0, hy =>
      simp at hy; subst hy
      have hadd : (⟨w.heap.size, 0, none⟩ : Addr).add 0 = ⟨w.heap.size, 0, none⟩ := rfl
      rw [hadd]
      exact cell_blk (T := e) (heap_alloc_new w _) 0
  have hone : ∀ y ∈ [u], y.oneCell' = true := by intro y hy; simp at hy; subst hy; exact hu
  obtain ⟨v1, w1, r1, a1, a2, a3⟩ := run_append_src E (w.alloc (.cells #[u] e)) base o.type v n xs (hown.alloc _) (w.heap.size + 1) (some ⟨w.heap.size, 0, none⟩) [u] 1 1 rfl (fun j y hy => ⟨w.heap.size, 0, rfl, by omega, by
    have := hcell j y hy
    have hadd : (⟨w.heap.size, 0, none⟩ : Addr).add j = ⟨w.heap.size, 0 + j, none⟩ := by unfold Addr.add; split <;> simp_all
    rw [hadd] at this
    exact this⟩) (fun h => by cases h) hone (by omega) hbytes (Nat.le_trans hbase (by simp))
  obtain ⟨v2, w2, r2, _, _, _, b3⟩ := run_append_spare E (w.alloc (.cells #[u] e)) base o.type v n xs (hown.alloc _) (hsp.kept (World.grownBy_alloc _ _ none) (by cases hq : v.ownBlock <;> simp)) ⟨w.heap.size, 0, none⟩ 1 1 [u] rfl hcell hone (by omega) hbytes (Nat.le_trans hbase (by simp))
  rw [r1] at r2
  injection r2 with e1 e2
  subst e1; subst e2
  refine wpList_plain hgd fun _ hK => ?_
  unfold Oper.wp execOp
  simp only [ho, resolve, invoke, builtin, Sem.run_bind, Sem.run_pure, Result.andThen_ok, List.map_toArray, List.map_cons, List.map_nil, hs, hx, r1]
  refine hK _ _ (h v1 w1 a1 ⟨a2.os, a2.tape, a2.output, Nat.le_trans (by simp) a2.size, fun i hi hne => (a2.block i (by simp; omega) hne).trans (Below.heap_alloc w _ i hi)⟩ (a3.imp id fun e => ⟨_, e, by simp, ?_⟩) b3)
  exact (a1.lt _ e).2
/-- Least on its way: the counters, the heap. -/
structure LSt (l : List Ev) (L g m : Nat) (E vo : Value) (w2 : World) (lc : Nat → Nat) (S : Nat → Prop) (n : Nat) (a : Nat → Nat) (wr : World) : Prop where
  bel : Below w2.heap.size w2 wr
  lcs : LCt wr L m lc
  rq : RQ (XL L vo) wr (L + 1) g E n a
  heap : HeapP (tk l) a n
  inj : InjP a n
  has : ∀ x, Has a n x ↔ S x
variable {l : List Ev} {L g m : Nat} {vo : Value} {w2 : World} {lc : Nat → Nat} {S : Nat → Prop} {n : Nat} {a : Nat → Nat} {wr : World}
theorem LSt.lt {E : Value} (h : LSt l L g m E vo w2 lc S n a wr) (hS : ∀ x, S x → x < m) : ∀ i, i < n → a i < m := fun i hi => hS _ ((h.has _).1 ⟨i, hi, rfl⟩)
theorem LSt.le {E : Value} (h : LSt l L g m E vo w2 lc S n a wr) (hS : ∀ x, S x → x < m) : n ≤ m := pigeon m n a h.inj (h.lt hS)
theorem LSt.congr {E : Value} {lc' : Nat → Nat} {S' : Nat → Prop} (h : LSt l L g m E vo w2 lc S n a wr) (hl : ∀ k, k < m → lc k = lc' k) (hS : ∀ x, S x ↔ S' x) : LSt l L g m E vo w2 lc' S' n a wr := ⟨h.bel, h.lcs.congr hl, h.rq, h.heap, h.inj, fun x => (h.has x).trans (hS x)⟩
theorem LSt.evs {E : Value} {A : Option Addr} {B0 : Nat} (h : LSt l L g m E vo w2 lc S n a wr) (hL : L = w2.heap.size) (hev : Evs w2 B0 A l) (hB0 : B0 ≤ w2.heap.size) : ∀ W, QX (XL L vo) wr W → Evs W B0 A l := fun W hW =>
  hev.below ((hW.bel h.bel (fun k hk => .inl (by omega))).mono hB0)
theorem LSt.hlen {E : Value} (h : LSt l L g m E vo w2 lc S n a wr) : Calls Try.prog 37 #[.pointer (some ⟨g, 0, none⟩)] wr fun e w' => e = .returned (.int .i64 (n : Nat)) ∧ w' = wr := rlen_at h.rq
theorem LSt.hpush {A : Option Addr} {cm B0 : Nat} (h : LSt l L g m (.slice A m cm) vo w2 lc S n a wr) (hL : L = w2.heap.size) (hev : Evs w2 B0 A l) (hB0 : B0 ≤ w2.heap.size) (hm : m = l.length) (hmx : m ≤ 2000) (hS : ∀ x, S x → x < m) (x : Nat) (hx : x < m) (hnx : ¬ S x) :
    Calls Try.prog 36 #[rif g, .iface 3 (.int .i64 (x : Nat))] wr fun e w' => e = .returned (.tuple #[]) ∧ QX (XL L vo) wr w' ∧ ∃ a', LSt l L g m (.slice A m cm) vo w2 lc (fun y => S y ∨ y = x) (n + 1) a' w' := by
  have hle := h.le hS
  have hLl := (h.rq.lt).2 L (.inl (Nat.le_refl _))
  refine (hpush_at l hm h.rq (h.evs hL hev hB0) (by omega) (by omega) (h.lt hS) h.heap x hx).mono ?_
  rintro e w' ⟨rfl, a', h1, h2, h3, h4⟩
  have hnh : ¬ Has a n x := fun hh => hnx ((h.has x).1 hh)
  refine ⟨rfl, h4, a', h4.bel h.bel (fun k hk => .inl (by omega)), h.lcs.at (h4.block L (.inl (Nat.le_refl _))), h3, h1, h2.2 (push_inj h.inj hnh), fun y => ?_⟩
  rw [h2.1, push_has, h.has]
theorem LSt.hpop {A : Option Addr} {cm B0 : Nat} (h : LSt l L g m (.slice A m cm) vo w2 lc S (n + 1) a wr) (hL : L = w2.heap.size) (hev : Evs w2 B0 A l) (hB0 : B0 ≤ w2.heap.size) (hm : m = l.length) (hmx : m ≤ 2000) (hS : ∀ x, S x → x < m) :
    Calls Try.prog 38 #[rif g] wr fun e w' => ∃ x, e = .returned (.iface 3 (.int .i64 (x : Nat))) ∧ S x ∧ (∀ y, S y → tk l x ≤ tk l y) ∧ QX (XL L vo) wr w' ∧ ∃ a', LSt l L g m (.slice A m cm) vo w2 lc (fun y => S y ∧ y ≠ x) n a' w' := by
  have hle := h.le hS
  refine (hpop_at l hm h.rq (h.evs hL hev hB0) (by omega) (h.lt hS) h.heap h.inj).mono ?_
  rintro e w' ⟨rfl, a', h1, h2, h3, h4, h5⟩
  refine ⟨a 0, rfl, (h.has _).1 ⟨0, by omega, rfl⟩, fun y hy => ?_, h5, a', h5.bel h.bel (fun k hk => .inl (by omega)), h.lcs.at (h5.block L (.inl (Nat.le_refl _))), h4, h1, h2, fun y => ?_⟩
  · obtain ⟨c, hc, rfl⟩ := (h.has y).2 hy
    exact heap_root h.heap c hc
  · rw [h3, h.has]
theorem QX.own {L B k : Nat} {vo : Value} {w w' : World} {xs : List Value} (h : QX (XL L vo) w w') (ho : w.ownsRow B 3 1 vo k xs) : w'.ownsRow B 3 1 vo k xs := ⟨ho.1, ho.2.imp id fun ⟨g, cap, cur, e, hb, hg, r⟩ => ⟨g, cap, cur, e, hb, (h.block g (.inr (by rw [e]; rfl))).trans hg, r⟩⟩
theorem QX.spare {L k : Nat} {vo z : Value} {w w' : World} (h : QX (XL L vo) w w') (hs : Spare z k vo w) : Spare z k vo w' := fun g hv => by
  obtain ⟨cur, e, m, hc, hp⟩ := hs g hv
  exact ⟨cur, e, m, (h.block g (.inr hv)).trans hc, hp⟩
/-- a counter is written. -/
theorem LSt.count {E : Value} (h : LSt l L g m E vo w2 lc S n a wr) (hL : L = w2.heap.size) (k x : Nat) : LSt l L g m E vo w2 (upd lc k x) S n a (wr.setCell ⟨L, k, none⟩ (.int .i64 (x : Nat))) := by
  have hg : wr.grownBy (wr.setCell ⟨L, k, none⟩ (.int .i64 (x : Nat))) (some L) := grown_setCell (World.grownBy.refl wr (some L)) (p := ⟨L, k, none⟩) rfl _
  exact ⟨h.bel.grown hg h.bel.size (fun b e => by injection e with e; omega), h.lcs.set k x, h.rq.setX (.inl (Nat.le_refl _)) k _, h.heap, h.inj, h.has⟩
/-- one's own row has grown. -/
theorem LSt.row {E vo' : Value} {w' : World} (h : LSt l L g m E vo w2 lc S n a wr) (hL : L = w2.heap.size) (hvo : ∀ b, vo.ownBlock = some b → L < b) (hg : wr.grownBy w' vo.ownBlock) (ho : vo'.ownBlock = vo.ownBlock ∨ ∃ b, vo'.ownBlock = some b ∧ wr.heap.size ≤ b ∧ b < w'.heap.size) : LSt l L g m E vo' w2 lc S n a w' := by
  have hLl := (h.rq.lt).2 L (.inl (Nat.le_refl _))
  exact ⟨h.bel.grown hg h.bel.size (fun b e => by have := hvo b e; omega), h.lcs.at (hg.block L hLl (fun e => by have := hvo L e.symm; omega)), h.rq.row hg ho, h.heap, h.inj, h.has⟩
end Go.Proofs.Ytaalinhkikmfaaa
