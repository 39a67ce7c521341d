/-
  'append' on a row of the call's own, elements of one cell: one element, and a whole slice (nil or not). Over any program.
-/
import Derived.Test.YtkdkpnidiehdfaaDoorHash
import Derived.Maps.AppendAt
import Derived.Deep.AppendLies
import Derived.OwnWalk
set_option linter.unusedSimpArgs false
set_option linter.unusedVariables false
namespace Go.Proofs.YtkdkpnidiehdfaaDoor
open Go.RowKit

/-- the slice type t has elements of type e: one cell each. -/
structure El (P : Program) (t e : TypeId) (z : Value) (bytes : Nat) : Prop where
  ht : P.underlying t = some (.slice e)
  hi : (P.info? e).map (fun i => (i.zero, i.size, i.bytes)) = some (some z, 1, bytes)
  hz : z.cells = #[z]
/-- a slice in blocks below B reads as the cells xs. -/
def Rd (w : World) (B : Nat) (A : Option Addr) (xs : List Value) : Prop :=
  ∀ j u, xs[j]? = some u → ∃ b off, A = some ⟨b, off, none⟩ ∧ b < B ∧ w.cell? ⟨b, off + j, none⟩ = some u
theorem Bs.rd {w : World} {B : Nat} {A : Option Addr} {l : List UInt8} (h : Bs w B A l) : Rd w B A (bcells l) := fun j u hu => by
  have hj : j < l.length := by
    rcases Nat.lt_or_ge j l.length with h' | h'
    · exact h'
    · simp [bcells, h'] at hu
  obtain ⟨b, off, e, hb, hc⟩ := h j hj
  refine ⟨b, off, e, hb, ?_⟩
  rw [hc]
  simp [bcells, hj] at hu
  simp [List.getD_eq_getElem?_getD, hj, ← hu]
theorem Rd.bs {w : World} {B : Nat} {A : Option Addr} {l : List UInt8} (h : Rd w B A (bcells l)) : Bs w B A l := fun j hj =>
  h j _ (by simp [bcells, List.getD_eq_getElem?_getD, hj])
theorem Rd.keep {w w' : World} {B : Nat} {A : Option Addr} {xs : List Value} (h : Rd w B A xs) (hk : ∀ b o, b < B → w'.cell? ⟨b, o, none⟩ = w.cell? ⟨b, o, none⟩) : Rd w' B A xs := fun j u hu => by
  obtain ⟨b, off, e, hb, hc⟩ := h j u hu
  exact ⟨b, off, e, hb, (hk b _ hb).trans hc⟩
theorem Rd.alloc0 {w : World} {A : Option Addr} {xs : List Value} (h : Rd w w.heap.size A xs) (o : Obj) : Rd (w.alloc o) w.heap.size A xs := h.keep fun _ _ hb => World.cell?_alloc_lt _ _ _ hb
theorem Rd.more {w : World} {B B' : Nat} {A : Option Addr} {xs : List Value} (h : Rd w B A xs) (hB : B ≤ B') : Rd w B' A xs := fun j u hu => by
  obtain ⟨b, off, e, hb, hc⟩ := h j u hu
  exact ⟨b, off, e, by omega, hc⟩
theorem Rd.below {w w' : World} {B : Nat} {A : Option Addr} {xs : List Value} (h : Rd w B A xs) (hb : Below B w w') : Rd w' B A xs := h.keep fun b o hbB => hb.cell (p := ⟨b, o, none⟩) hbB
theorem bcells_length (l : List UInt8) : (bcells l).length = l.length := by simp [bcells]
theorem bcells_app (l r : List UInt8) : bcells (l ++ r) = bcells l ++ bcells r := by simp [bcells]
theorem bcells_one (l : List UInt8) : ∀ u ∈ bcells l, u.oneCell' = true := by
  intro u hu; simp only [bcells, List.mem_map] at hu; obtain ⟨x, _, rfl⟩ := hu; rfl

theorem run_append_none {P : Program} {t e : TypeId} {z : Value} {bytes : Nat} (E : El P t e z bytes) (w : World) (base : Nat) (ty : TypeId)
    (v : Value) (n : Nat) (xs : List Value) (hown : w.ownsRow base e 1 v n xs) (c : Nat) : (Builtin.append_ #[t, t] ty #[v, .slice none 0 c]).run P w = .ok v w := by
  have hi := E.hi
  cases hq : P.info? e with
  | none => rw [hq] at hi; simp at hi
  | some i =>
    rcases hown.2 with ⟨rfl, rfl⟩ | ⟨g, cap, cur, rfl, _, _, hnc, _⟩
    · simp [Builtin.append_, run_underlying E.ht, sizeOf, typeInfo, hq, Builtin.lenOf, Builtin.firstCells]
    · simp [Builtin.append_, run_underlying E.ht, sizeOf, typeInfo, hq, Builtin.lenOf, Builtin.firstCells, hnc, storeCells]

theorem run_append_src {P : Program} {t e : TypeId} {z : Value} {bytes : Nat} (E : El P t e z bytes) (w : World) (base : Nat) (ty : TypeId)
    (v : Value) (n : Nat) (xs : List Value) (hown : w.ownsRow base e 1 v n xs) (B : Nat) (A : Option Addr) (news : List Value) (m c : Nat) (hm : news.length = m) (hr : Rd w B A news)
    (hA : A = none → m = 0) (h1 : ∀ u ∈ news, u.oneCell' = true) (h63 : n + m ≤ 1000000000000) (hbytes : bytes ≤ 100) (hbase : base ≤ w.heap.size) :
    ∃ v' w', (Builtin.append_ #[t, t] ty #[v, .slice A m c]).run P w = .ok v' w' ∧ w'.ownsRow base e 1 v' (n + m) (xs ++ news) ∧ w.grownBy w' v.ownBlock ∧
      (v'.ownBlock = v.ownBlock ∨ v'.ownBlock = some w.heap.size) := by
  rcases A with _ | ad
  · obtain rfl := hA rfl
    obtain rfl := List.eq_nil_of_length_eq_zero hm
    exact ⟨v, w, run_append_none E w base ty v n xs hown c, by simpa using hown, World.grownBy.refl w _, .inl rfl⟩
  · obtain ⟨i, hi, hz0, hz1, hz2⟩ := info_parts E.hi
    have hb : (n + m) * bytes ≤ 140737488355328 := Nat.le_trans (Nat.mul_le_mul h63 hbytes) (by omega)
    obtain ⟨v', w', hrun, h2, h3, _, h5⟩ := run_append_own_at (P := P) w base t ty e i z 1 bytes E.ht hi hz0 hz1 hz2 (by rw [E.hz]; rfl) (by omega) v n xs hown ad m c news (by omega) (fun j u hu => by
      obtain ⟨b, off, e, _, hc⟩ := hr j u hu
      injection e with e
      subst e
      have hadd : (⟨b, off, none⟩ : Addr).add j = ⟨b, off + j, none⟩ := by unfold Addr.add; split <;> simp_all
      rw [hadd]; exact hc) h1 (by simp only [maxLen]; omega) hb hbase
    exact ⟨v', w', hrun, h2, h3, h5⟩

/-- THE LAW AT THE OPERATION. 'Below B0 w0 w' goes on; the row of v, or a new one, is all that has turned. -/
theorem wp_append_src {P : Program} {t e : TypeId} {z : Value} {bytes : Nat} (E : El P t e z bytes) {o : Oper} {a : Act} {K : Act → World → Prop} {Q : Exit → Act → World → Prop} (w : World) (s x : Operand)
    (ho : o.op = .call { callee := .builtin .append, args := #[s, x], argTypes := #[t, t] }) (base : Nat)
    (v : Value) (n : Nat) (xs : List Value) (hs : a.eval s = v) (hown : w.ownsRow base e 1 v n xs) (B : Nat) (A : Option Addr) (news : List Value) (m c : Nat) (hx : a.eval x = .slice A m c) (hm : news.length = m) (hr : Rd w B A news)
    (hA : A = none → m = 0) (h1 : ∀ u ∈ news, u.oneCell' = true) (h63 : n + m ≤ 1000000000000) (hbytes : bytes ≤ 100) (w0 : World) (hB : base ≤ w0.heap.size) (hbel : Below base w0 w)
    (h : ∀ v' w', w'.ownsRow base e 1 v' (n + m) (xs ++ news) → Below base w0 w' → w.grownBy w' v.ownBlock → (v'.ownBlock = v.ownBlock ∨ v'.ownBlock = some w.heap.size) → K (a.put o.dst v') w') : o.wp P a w K Q := by
  obtain ⟨v', w', hrun, h2, h3, h4⟩ := run_append_src E w base o.type v n xs hown B A news m c hm hr hA h1 h63 hbytes (Nat.le_trans hB hbel.size)
  unfold Oper.wp execOp
  simp only [ho, resolve, invoke, builtin, Sem.run_bind, Sem.run_pure, Result.andThen_ok, List.map_toArray, List.map_cons, List.map_nil, hs, hx, hrun]
  exact h v' w' h2 (hbel.grown h3 (Nat.le_trans hB hbel.size) (fun k hk => (hown.lt k hk).1)) h3 h4

theorem wpList_append_src {P : Program} {t e : TypeId} {z : Value} {bytes : Nat} (E : El P t e z bytes) {ops : Array Oper} {rest : List Oper} {o : Oper} {a : Act} {Q : Exit → Act → World → Prop} {w : World} (hgd : o.guard = none) (s x : Operand)
    (ho : o.op = .call { callee := .builtin .append, args := #[s, x], argTypes := #[t, t] }) (base : Nat)
    (v : Value) (n : Nat) (xs : List Value) (hs : a.eval s = v) (hown : w.ownsRow base e 1 v n xs) (B : Nat) (A : Option Addr) (news : List Value) (m c : Nat) (hx : a.eval x = .slice A m c) (hm : news.length = m) (hr : Rd w B A news)
    (hA : A = none → m = 0) (h1 : ∀ u ∈ news, u.oneCell' = true) (h63 : n + m ≤ 1000000000000) (hbytes : bytes ≤ 100) (w0 : World) (hB : base ≤ w0.heap.size) (hbel : Below base w0 w)
    (h : ∀ v' w', w'.ownsRow base e 1 v' (n + m) (xs ++ news) → Below base w0 w' → w.grownBy w' v.ownBlock → (v'.ownBlock = v.ownBlock ∨ v'.ownBlock = some w.heap.size) → wpList P ops Q rest (a.put o.dst v') w') : wpList P ops Q (o :: rest) a w :=
  wpList_plain hgd fun _ hK => wp_append_src E w s x ho base v n xs hs hown B A news m c hx hm hr hA h1 h63 hbytes w0 hB hbel fun v' w' h2 h3 h4 h5 => hK _ _ (h v' w' h2 h3 h4 h5)

theorem step_append_src {P : Program} {t e : TypeId} {z : Value} {bytes : Nat} (E : El P t e z bytes) {ops : Array Oper} {o : Oper} {a : Act} {K : Act → World → Prop} {Q : Exit → Act → World → Prop} {E' : Prop} (w : World) (hgd : o.guard = none) (s x : Operand)
    (ho : o.op = .call { callee := .builtin .append, args := #[s, x], argTypes := #[t, t] }) (base : Nat)
    (v : Value) (n : Nat) (xs : List Value) (hs : a.eval s = v) (hown : w.ownsRow base e 1 v n xs) (B : Nat) (A : Option Addr) (news : List Value) (m c : Nat) (hx : a.eval x = .slice A m c) (hm : news.length = m) (hr : Rd w B A news)
    (hA : A = none → m = 0) (h1 : ∀ u ∈ news, u.oneCell' = true) (h63 : n + m ≤ 1000000000000) (hbytes : bytes ≤ 100) (w0 : World) (hB : base ≤ w0.heap.size) (hbel : Below base w0 w)
    (h : ∀ v' w', w'.ownsRow base e 1 v' (n + m) (xs ++ news) → Below base w0 w' → w.grownBy w' v.ownBlock → (v'.ownBlock = v.ownBlock ∨ v'.ownBlock = some w.heap.size) → K (a.put o.dst v') w') :
    if Region.wanted o (yielded ops a.tmps) = true then Oper.wp P o a w K Q else E' := by
  have hw : Region.wanted o (yielded ops a.tmps) = true := by simp [Region.wanted, hgd]
  rw [if_pos hw]
  exact wp_append_src E w s x ho base v n xs hs hown B A news m c hx hm hr hA h1 h63 hbytes w0 hB hbel h
/-- one element, which lies in the newest block. -/
theorem wpList_append_one {P : Program} {t e : TypeId} {z : Value} {bytes : Nat} (E : El P t e z bytes) {ops : Array Oper} {rest : List Oper} {o : Oper} {a : Act} {Q : Exit → Act → World → Prop} {w : World} (hgd : o.guard = none) (s x : Operand)
    (ho : o.op = .call { callee := .builtin .append, args := #[s, x], argTypes := #[t, t] }) (base : Nat) (u : Value) (k : Nat) (hu : u.oneCell' = true)
    (v : Value) (n : Nat) (xs : List Value) (hs : a.eval s = v) (hown : w.ownsRow base e 1 v n xs) (hx : a.eval x = .slice (some ⟨w.heap.size, 0, none⟩) 1 1)
    (h63 : n ≤ 999999999999) (hbytes : bytes ≤ 100) (w0 : World) (hB : base ≤ w0.heap.size) (hbel : Below base w0 w)
    (h : ∀ v' w', w'.ownsRow base e 1 v' (n + 1) (xs ++ [u]) → Below base w0 w' → w.grownBy w' v.ownBlock → (v'.ownBlock = v.ownBlock ∨ v'.ownBlock = some (w.heap.size + 1)) → wpList P ops Q rest (a.put o.dst v') w') :
    wpList P ops Q (o :: rest) a ((w.alloc (.cells #[u] e)).drewN k) := by
  refine wpList_append_src E hgd s x ho base v n xs hs (hown.alloc _) (w.heap.size + 1) (some ⟨w.heap.size, 0, none⟩) [u] 1 1 hx rfl ?_ (by intro h; cases h) (by intro y hy; simp at hy; subst hy; exact hu) (by omega) hbytes w0 hB
    (below_drewN (hbel.alloc (Nat.le_trans hB hbel.size) _) k) ?_
  · intro j y hy
    match j, hy with
    | 0, hy =>
      simp at hy; subst hy
      exact ⟨_, 0, rfl, by omega, cell_blk (T := e) (heap_alloc_new _ _) 0⟩
  · intro v' w' h2 h3 h4 h5
    refine h v' w' h2 h3 ⟨h4.os, h4.tape, h4.output, Nat.le_trans (by simp) h4.size, fun i hi hne => (h4.block i (by simp; omega) hne).trans (Below.heap_alloc w _ i hi)⟩ (by simpa using h5)
/-- without a draw. -/
theorem wpList_append_one0 {P : Program} {t e : TypeId} {z : Value} {bytes : Nat} (E : El P t e z bytes) {ops : Array Oper} {rest : List Oper} {o : Oper} {a : Act} {Q : Exit → Act → World → Prop} {w : World} (hgd : o.guard = none) (s x : Operand)
    (ho : o.op = .call { callee := .builtin .append, args := #[s, x], argTypes := #[t, t] }) (base : Nat) (u : Value) (hu : u.oneCell' = true)
    (v : Value) (n : Nat) (xs : List Value) (hs : a.eval s = v) (hown : w.ownsRow base e 1 v n xs) (hx : a.eval x = .slice (some ⟨w.heap.size, 0, none⟩) 1 1)
    (h63 : n ≤ 999999999999) (hbytes : bytes ≤ 100) (w0 : World) (hB : base ≤ w0.heap.size) (hbel : Below base w0 w)
    (h : ∀ v' w', w'.ownsRow base e 1 v' (n + 1) (xs ++ [u]) → Below base w0 w' → w.grownBy w' v.ownBlock → (v'.ownBlock = v.ownBlock ∨ v'.ownBlock = some (w.heap.size + 1)) → wpList P ops Q rest (a.put o.dst v') w') :
    wpList P ops Q (o :: rest) a (w.alloc (.cells #[u] e)) :=
  wpList_append_one E hgd s x ho base u 0 hu v n xs hs hown hx h63 hbytes w0 hB hbel h

theorem own_below {w w' : World} {base : Nat} {e : TypeId} {v : Value} {n : Nat} {xs : List Value} (h : w.ownsRow base e 1 v n xs) (hb : Below w.heap.size w w') : w'.ownsRow base e 1 v n xs :=
  h.kept (grown_below hb none) (by cases hv : v.ownBlock with
    | none => exact .inl rfl
    | some k => exact .inr (by simp))
theorem wcells_one (l : List UInt32) : (wcells l).all (·.oneCell') = true := by
  rw [Array.all_eq_true_iff_forall_mem]; intro x hx; simp [wcells] at hx; obtain ⟨y, _, rfl⟩ := hx; rfl
theorem cells_size (s : St) : s.cells.size = 8 := rfl
theorem cells_one (s : St) : s.cells.all (·.oneCell') = true := wcells_one s.list
theorem keepS {w2 W : World} {B g i : Nat} {v : Value} (h : w2.cell? ⟨g, i, none⟩ = some v) (hg : g < B) (hb : Below B w2 W) : W.cell? ⟨g, i, none⟩ = some v ∧ Below B w2 W := ⟨(hb.cell (p := ⟨g, i, none⟩) hg).trans h, hb⟩
theorem rd_new (w : World) (u : Value) (e : TypeId) : Rd (w.alloc (.cells #[u] e)) (w.heap.size + 1) (some ⟨w.heap.size, 0, none⟩) [u] := fun j y hy => by
  match j, hy with
  | 0, hy =>
    simp at hy; subst hy
    exact ⟨_, 0, rfl, by omega, cell_blk (T := e) (heap_alloc_new _ _) 0⟩
theorem Rd.grown {w w' : World} {B : Nat} {A : Option Addr} {xs : List Value} (h : Rd w B A xs) (hg : w.grownBy w' none) (hB : B ≤ w.heap.size) : Rd w' B A xs :=
  h.keep fun b o hb => World.cell?_of_block (hg.block b (by omega) (by simp))
theorem Rd.drew {w : World} {B : Nat} {A : Option Addr} {xs : List Value} (h : Rd w B A xs) : Rd w.drew B A xs := h
/-- a digest as a value. -/
def dg (l : List UInt8) : Value := .agg (bcells l).toArray
/-- a slice's length. -/
def lenV : Value → Nat
  | .slice _ n _ => n
  | _ => 0
/-- what an owned row reads as. -/
theorem own_rd {w : World} {base : Nat} {e : TypeId} {v : Value} {n : Nat} {xs : List Value} (h : w.ownsRow base e 1 v n xs) :
    ∃ A cap, v = .slice A n cap ∧ Rd w w.heap.size A xs ∧ (A = none → n = 0) ∧ n ≤ cap := by
  rcases h.2 with ⟨rfl, rfl⟩ | ⟨g, cap, cur, rfl, _, hg, hnc, _⟩
  · refine ⟨none, 0, rfl, ?_, fun _ => rfl, Nat.le_refl _⟩
    have := h.1
    have : xs = [] := List.eq_nil_of_length_eq_zero (by omega)
    subst this
    intro j u hu; simp at hu
  · refine ⟨_, cap, rfl, ?_, (by intro h; cases h), hnc⟩
    intro j u hu
    refine ⟨g, 0, rfl, lt_blk hg, ?_⟩
    have hj : j < n * 1 := by
      have := h.1
      rcases Nat.lt_or_ge j xs.length with h' | h'
      · omega
      · rw [List.getElem?_eq_none h'] at hu; cases hu
    rw [Nat.zero_add, h.cellAt j hj]; exact hu
theorem own_length {w : World} {base : Nat} {e : TypeId} {v : Value} {n : Nat} {xs : List Value} (h : w.ownsRow base e 1 v n xs) : xs.length = n := by have := h.1; omega
end Go.Proofs.YtkdkpnidiehdfaaDoor
