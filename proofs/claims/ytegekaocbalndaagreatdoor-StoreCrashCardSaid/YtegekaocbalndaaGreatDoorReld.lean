/- drawn regions: predicates and steps. -/
import Derived.Test.YtegekaocbalndaaGreatDoorRelz
set_option linter.unusedSimpArgs false
set_option linter.unusedVariables false
namespace Go.Proofs.YtegekaocbalndaaGreatDoor
open Go.RowKit

/-- a slice of bytes that reads as l. -/
def SlB (l : List UInt8) (v : Value) (w : World) : Prop := ∃ A cap, v = .slice A l.length cap ∧ Bs w w.heap.size A l ∧ (A = none → l = [])
theorem SlB.keeps (l : List UInt8) : Keeps (SlB l) := by
  rintro v w w' ⟨A, cap, rfl, h1, h2⟩ hb
  exact ⟨A, cap, rfl, (h1.keep hb.cell).more hb.below.size, h2⟩
theorem SlB.new (l : List UInt8) (w : World) (e : TypeId) (cs : Array Value) (n m : Nat) (hc : cs = (bcells l).toArray) (hn : n = l.length) : SlB l (.slice (some ⟨w.heap.size, 0, none⟩) n m) (w.alloc (.cells cs e)) := by
  subst hn hc
  exact ⟨_, m, rfl, (Bs.blk (heap_alloc_new _ _)), fun h => by cases h⟩
theorem SlB.rd {l : List UInt8} {v : Value} {w : World} (h : SlB l v w) : ∃ A cap, v = .slice A l.length cap ∧ Rd w w.heap.size A (bcells l) ∧ (A = none → l.length = 0) := by
  obtain ⟨A, cap, rfl, h1, h2⟩ := h
  exact ⟨A, cap, rfl, h1.rd, fun h => by rw [h2 h]; rfl⟩
theorem rel_is {P : Program} {ops : Array Oper} {w0 : World} {fin : Act → World → Prop} {o : Oper} {os : List Oper} {Ts : List TT} {a : Act} {Φ : List (Tmp × (World → Prop))} {c : Value}
    (h1 : ∀ w, Below w0.heap.size w0 w → factsOn Φ (o.looksAt ops) w → relOp P w0.heap.size ops o a (.inl c) w) (h2 : relWalk P ops w0 fin os Ts (a.put o.dst c) Φ) : relWalk P ops w0 fin (o :: os) (.inl c :: Ts) a Φ := ⟨h1, h2⟩
theorem rel_fits {P : Program} {ops : Array Oper} {w0 : World} {fin : Act → World → Prop} {o : Oper} {os : List Oper} {Ts : List TT} {a : Act} {Φ : List (Tmp × (World → Prop))} {F : Value → World → Prop}
    (h1 : ∀ w, Below w0.heap.size w0 w → factsOn Φ (o.looksAt ops) w → relOp P w0.heap.size ops o a (.inr F) w) (hk : Keeps F) (h2 : ∀ v, relWalk P ops w0 fin os Ts (a.put o.dst v) (Φ ++ [(o.dst.getD 0, F v)])) : relWalk P ops w0 fin (o :: os) (.inr F :: Ts) a Φ := ⟨h1, hk, h2⟩
theorem rel_end {P : Program} {ops : Array Oper} {w0 : World} {fin : Act → World → Prop} {a : Act} {Φ : List (Tmp × (World → Prop))}
    (h : ∀ w, Below w0.heap.size w0 w → (∀ p ∈ Φ, p.2 w) → fin a w) : relWalk P ops w0 fin [] [] a Φ := h
theorem rel_call {P : Program} {ops : Array Oper} {o : Oper} {a : Act} {T : TT} {w0 W : World} (hW : Below w0.heap.size w0 W) (hw : Region.wanted o (yielded ops a.tmps) = true) {f : FuncId} {args : Array Value} (hr : (execOp a.eval o).run P W = .ok (.enter f args) W)
    (h : Calls P f args W fun e w'' => ∃ v, e = .returned v ∧ Below W.heap.size W w'' ∧ ttHolds T v w'') : relOp P w0.heap.size ops o a T W := by
  unfold relOp
  rw [if_pos hw, hr]
  exact ⟨rfl, h.mono fun e w'' ⟨v, h1, h2, h3⟩ => ⟨v, h1, Stay.of h2 hW.size, h3⟩⟩
theorem rel_index_str {P : Program} {ops : Array Oper} {o : Oper} {a : Act} {w0 W : World} (hw : Region.wanted o (yielded ops a.tmps) = true) {ty : TypeId} {x y : Operand} (ho : o.op = .index ty x y) (hu : P.underlying ty = some .string)
    {s : ByteArray} (hx : a.eval x = .string s) {k : IntKind} {i : Int} (hy : a.eval y = .int k i) (n : Nat) (hi : i = (n : Int)) (hn : n < s.size) (c : UInt8) (hv : s.data.toList.getD n 0 = c) : relOp P w0.heap.size ops o a (.inl (.int .u8 (c.toNat : Int))) W := by
  unfold relOp
  rw [if_pos hw]
  have hr : (execOp a.eval o).run P W = .ok (.value (.int .u8 (c.toNat : Int))) W := by
    unfold execOp
    subst hi
    simp only [ho, hx, hy, Sem.run_bind]
    rw [run_index_string W ty s k (n : Int) hu]
    have h1 : (0 : Int) ≤ (n : Int) ∧ (n : Int) < (s.size : Int) := by omega
    rw [dif_pos h1]
    simp only [Result.andThen_ok, Sem.run_pure, Int.toNat_natCast]
    congr 4
    rw [← hv, List.getD_eq_getElem?_getD, List.getElem?_eq_getElem (by simpa using hn)]
    rfl
  rw [hr]
  exact ⟨Stay.refl _ _, rfl⟩
theorem Stay.alloc {w0 w : World} (h : Below w0.heap.size w0 w) (o : Obj) : Stay w0.heap.size w (w.alloc o) := Stay.of (below_alloc w o) h.size

/-- a new row of bytes, marked or not. -/
def RowB (l : List UInt8) (v : Value) (w : World) : Prop := ∃ g fr, v = .slice (some ⟨g, 0, none⟩) l.length l.length ∧ w.heap[g]? = some (.cells (bcells l).toArray 5 fr)
theorem RowB.keeps (l : List UInt8) : Keeps (RowB l) := by
  rintro v w w' ⟨g, fr, rfl, h⟩ hs
  rcases hs.blk g (lt_blk h) with e | ⟨cs, T, fr1, fr2, e1, e2⟩
  · exact ⟨g, fr, rfl, e.trans h⟩
  · rw [h] at e1
    injection e1 with e1
    injection e1 with a b c
    subst a b
    exact ⟨g, fr2, rfl, e2⟩
theorem RowB.new (l : List UInt8) (w : World) (cs : Array Value) (n : Nat) (hc : cs = (bcells l).toArray) (hn : n = l.length) : RowB l (.slice (some ⟨w.heap.size, 0, none⟩) n n) (w.alloc (.cells cs 5)) := by
  subst hn hc
  exact ⟨_, _, rfl, heap_alloc_new _ _⟩
theorem RowB.slb {l : List UInt8} {v : Value} {w : World} (h : RowB l v w) : SlB l v w := by
  obtain ⟨g, fr, rfl, h⟩ := h
  refine ⟨_, _, rfl, fun j hj => ?_, fun h => by cases h⟩
  refine ⟨g, 0, rfl, lt_blk h, ?_⟩
  obtain ⟨x, y⟩ := fr
  rw [cell_of_row w g _ _ _ (x, y) h]
  simp [bcells, List.getD_eq_getElem?_getD, hj]
/-- '[]byte(..)' of a constant: the row is marked. -/
theorem run_conv_mark {P : Program} (ht : P.underlying 30 = some (.slice 5)) (he : P.underlying 5 = some (.int .u8)) (l : List UInt8) (v : Value) (w : World) (h : RowB l v w) : ∃ w', (convert 30 30 v).run P w = .ok v w' ∧ RowB l v w' ∧ w'.heap.size = w.heap.size ∧ (∀ b, b < w.heap.size → SameBlk w.heap[b]? w'.heap[b]?) ∧ (∀ B, (∀ g, v.ownBlock = some g → B ≤ g) → Below B w w') := by
  obtain ⟨g, fr, rfl, hg⟩ := h
  have hsh : w.shape? g = some (5, (bcells l).toArray.size) := by unfold World.shape?; rw [hg]
  obtain ⟨lo, hi⟩ := fr
  refine ⟨w.freeze ⟨g, (bcells l).toArray.size, none⟩ 1, ?_, ?_, ?_, ?_, ?_⟩
  · simp [convert, run_underlying ht, run_underlying he, markStringish, hsh]
  · refine ⟨g, (if lo == hi then ((bcells l).toArray.size, (bcells l).toArray.size + 1) else (min lo (bcells l).toArray.size, max hi ((bcells l).toArray.size + 1))), rfl, ?_⟩
    unfold World.freeze
    rw [if_neg (by decide)]
    simp only [Array.getElem?_modify, hg, if_pos]
    rfl
  · unfold World.freeze; rw [if_neg (by decide)]; simp
  · intro b hb
    unfold World.freeze
    rw [if_neg (by decide)]
    simp only [Array.getElem?_modify]
    by_cases e : g = b
    · subst e
      rw [if_pos rfl, hg]
      exact .inr ⟨_, _, _, _, rfl, rfl⟩
    · rw [if_neg e]; exact .inl rfl
  · intro B hB
    have hBg := hB g rfl
    unfold World.freeze
    rw [if_neg (by decide)]
    exact ⟨rfl, rfl, rfl, by simp, fun k hk => by simp only [Array.getElem?_modify]; rw [if_neg (by omega)]⟩
end Go.Proofs.YtegekaocbalndaaGreatDoor
