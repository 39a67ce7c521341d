/- several texts in one: drawn regions: what all steps share., drawn regions: predicates and steps., drawn regions whose operations read, call and make memory: as XRel, but what is there stay, drawn regions (XSg), with slices of bytes., append to slices of structs (elements of several cells)., new blocks, one behind another., drawn regions as in XSl; besides, some copies of what the region does not write need not b, lists of slices of bytes. -/
import Derived.Test.YtjbpgjfnccmdaaaRelc
import Derived.Test.YtjbpgjfnccmdaaaConv
import Derived.Test.YtjbpgjfnccmdaaaKit
section
set_option linter.unusedSimpArgs false
set_option linter.unusedVariables false
namespace Go.Proofs.Ytjbpgjfnccmdaaa
open Go.RowKit
attribute [go_sem] relOp relUpon
@[go_sem] theorem ttHolds_inl (c v : Value) (w : World) : ttHolds (.inl c) v w = (v = c) := rfl
@[go_sem] theorem ttHolds_inr (F : Value → World → Prop) (v : Value) (w : World) : ttHolds (.inr F) v w = F v w := rfl
theorem below_alloc (w : World) (o : Obj) : Below w.heap.size w (w.alloc o) := (Below.refl _ _).alloc (Nat.le_refl _) _
end Go.Proofs.Ytjbpgjfnccmdaaa
end

section
set_option linter.unusedSimpArgs false
set_option linter.unusedVariables false
namespace Go.Proofs.Ytjbpgjfnccmdaaa
open Go.RowKit

/-- a slice of bytes that reads as l. -/
def SlB (l : List UInt8) (v : Value) (w : World) : Prop := ∃ A cap, v = .slice A l.length cap ∧ Bs w w.heap.size A l ∧ (A = none → l = [])
theorem SlB.keeps (l : List UInt8) : Keeps (SlB l) := by
  rintro v w w' ⟨A, cap, rfl, h1, h2⟩ hb
  exact ⟨A, cap, rfl, (h1.keep hb.cell).more hb.below.size, h2⟩
theorem SlB.new (l : List UInt8) (w : World) (e : TypeId) (cs : Array Value) (n m : Nat) (hc : cs = (bcells l).toArray) (hn : n = l.length) : SlB l (.slice (some ⟨w.heap.size, 0, none⟩) n m) (w.alloc (.cells cs e)) := by
  subst hn hc
  exact ⟨_, m, rfl, (Bs.blk (heap_alloc_new _ _)), fun h => by cases h⟩
theorem SlB.rd {l : List UInt8} {v : Value} {w : World} (h : SlB l v w) : ∃ A cap, v = .slice A l.length cap ∧ Rd w w.heap.size A (bcells l) ∧ (A = none → l.length = 0) := by
  obtain ⟨A, cap, rfl, h1, h2⟩ := h
  exact ⟨A, cap, rfl, h1.rd, fun h => by rw [h2 h]; rfl⟩
theorem rel_is {P : Program} {ops : Array Oper} {w0 : World} {fin : Act → World → Prop} {o : Oper} {os : List Oper} {Ts : List TT} {a : Act} {Φ : List (Tmp × (World → Prop))} {c : Value}
    (h1 : ∀ w, Below w0.heap.size w0 w → factsOn Φ (o.looksAt ops) w → relOp P w0.heap.size ops o a (.inl c) w) (h2 : relWalk P ops w0 fin os Ts (a.put o.dst c) Φ) : relWalk P ops w0 fin (o :: os) (.inl c :: Ts) a Φ := ⟨h1, h2⟩
theorem rel_fits {P : Program} {ops : Array Oper} {w0 : World} {fin : Act → World → Prop} {o : Oper} {os : List Oper} {Ts : List TT} {a : Act} {Φ : List (Tmp × (World → Prop))} {F : Value → World → Prop}
    (h1 : ∀ w, Below w0.heap.size w0 w → factsOn Φ (o.looksAt ops) w → relOp P w0.heap.size ops o a (.inr F) w) (hk : Keeps F) (h2 : ∀ v, relWalk P ops w0 fin os Ts (a.put o.dst v) (Φ ++ [(o.dst.getD 0, F v)])) : relWalk P ops w0 fin (o :: os) (.inr F :: Ts) a Φ := ⟨h1, hk, h2⟩
theorem rel_end {P : Program} {ops : Array Oper} {w0 : World} {fin : Act → World → Prop} {a : Act} {Φ : List (Tmp × (World → Prop))}
    (h : ∀ w, Below w0.heap.size w0 w → (∀ p ∈ Φ, p.2 w) → fin a w) : relWalk P ops w0 fin [] [] a Φ := h
theorem rel_call {P : Program} {ops : Array Oper} {o : Oper} {a : Act} {T : TT} {w0 W : World} (hW : Below w0.heap.size w0 W) (hw : Region.wanted o (yielded ops a.tmps) = true) {f : FuncId} {args : Array Value} (hr : (execOp a.eval o).run P W = .ok (.enter f args) W)
    (h : Calls P f args W fun e w'' => ∃ v, e = .returned v ∧ Below W.heap.size W w'' ∧ ttHolds T v w'') : relOp P w0.heap.size ops o a T W := by
  unfold relOp
  rw [if_pos hw, hr]
  exact ⟨rfl, h.mono fun e w'' ⟨v, h1, h2, h3⟩ => ⟨v, h1, Stay.of h2 hW.size, h3⟩⟩
theorem rel_index_str {P : Program} {ops : Array Oper} {o : Oper} {a : Act} {w0 W : World} (hw : Region.wanted o (yielded ops a.tmps) = true) {ty : TypeId} {x y : Operand} (ho : o.op = .index ty x y) (hu : P.underlying ty = some .string)
    {s : ByteArray} (hx : a.eval x = .string s) {k : IntKind} {i : Int} (hy : a.eval y = .int k i) (n : Nat) (hi : i = (n : Int)) (hn : n < s.size) (c : UInt8) (hv : s.data.toList.getD n 0 = c) : relOp P w0.heap.size ops o a (.inl (.int .u8 (c.toNat : Int))) W := by
  unfold relOp
  rw [if_pos hw]
  have hr : (execOp a.eval o).run P W = .ok (.value (.int .u8 (c.toNat : Int))) W := by
    unfold execOp
    subst hi
    simp only [ho, hx, hy, Sem.run_bind]
    rw [run_index_string W ty s k (n : Int) hu]
    have h1 : (0 : Int) ≤ (n : Int) ∧ (n : Int) < (s.size : Int) := by omega
    rw [dif_pos h1]
    simp only [Result.andThen_ok, Sem.run_pure, Int.toNat_natCast]
    congr 4
    rw [← hv, List.getD_eq_getElem?_getD, List.getElem?_eq_getElem (by simpa using hn)]
    rfl
  rw [hr]
  exact ⟨Stay.refl _ _, rfl⟩
theorem Stay.alloc {w0 w : World} (h : Below w0.heap.size w0 w) (o : Obj) : Stay w0.heap.size w (w.alloc o) := Stay.of (below_alloc w o) h.size

/-- a new row of bytes, marked or not. -/
def RowB (l : List UInt8) (v : Value) (w : World) : Prop := ∃ g fr, v = .slice (some ⟨g, 0, none⟩) l.length l.length ∧ w.heap[g]? = some (.cells (bcells l).toArray 5 fr)
theorem RowB.keeps (l : List UInt8) : Keeps (RowB l) := by
  rintro v w w' ⟨g, fr, rfl, h⟩ hs
  rcases hs.blk g (lt_blk h) with e | ⟨cs, T, fr1, fr2, e1, e2⟩
  · exact ⟨g, fr, rfl, e.trans h⟩
  · rw [h] at e1
    injection e1 with e1
    injection e1 with a b c
    subst a b
    exact ⟨g, fr2, rfl, e2⟩
theorem RowB.new (l : List UInt8) (w : World) (cs : Array Value) (n : Nat) (hc : cs = (bcells l).toArray) (hn : n = l.length) : RowB l (.slice (some ⟨w.heap.size, 0, none⟩) n n) (w.alloc (.cells cs 5)) := by
  subst hn hc
  exact ⟨_, _, rfl, heap_alloc_new _ _⟩
theorem RowB.slb {l : List UInt8} {v : Value} {w : World} (h : RowB l v w) : SlB l v w := by
  obtain ⟨g, fr, rfl, h⟩ := h
  refine ⟨_, _, rfl, fun j hj => ?_, fun h => by cases h⟩
  refine ⟨g, 0, rfl, lt_blk h, ?_⟩
  obtain ⟨x, y⟩ := fr
  rw [cell_of_row w g _ _ _ (x, y) h]
  simp [bcells, List.getD_eq_getElem?_getD, hj]
/-- '[]byte(..)' of a constant: the row is marked. -/
theorem run_conv_mark {P : Program} (ht : P.underlying 31 = some (.slice 5)) (he : P.underlying 5 = some (.int .u8)) (l : List UInt8) (v : Value) (w : World) (h : RowB l v w) : ∃ w', (convert 31 31 v).run P w = .ok v w' ∧ RowB l v w' ∧ w'.heap.size = w.heap.size ∧ (∀ b, b < w.heap.size → SameBlk w.heap[b]? w'.heap[b]?) ∧ (∀ B, (∀ g, v.ownBlock = some g → B ≤ g) → Below B w w') := by
  obtain ⟨g, fr, rfl, hg⟩ := h
  have hsh : w.shape? g = some (5, (bcells l).toArray.size) := by unfold World.shape?; rw [hg]
  obtain ⟨lo, hi⟩ := fr
  refine ⟨w.freeze ⟨g, (bcells l).toArray.size, none⟩ 1, ?_, ?_, ?_, ?_, ?_⟩
  · simp [convert, run_underlying ht, run_underlying he, markStringish, hsh]
  · refine ⟨g, (if lo == hi then ((bcells l).toArray.size, (bcells l).toArray.size + 1) else (min lo (bcells l).toArray.size, max hi ((bcells l).toArray.size + 1))), rfl, ?_⟩
    unfold World.freeze
    rw [if_neg (by decide)]
    simp only [Array.getElem?_modify, hg, if_pos]
    rfl
  · unfold World.freeze; rw [if_neg (by decide)]; simp
  · intro b hb
    unfold World.freeze
    rw [if_neg (by decide)]
    simp only [Array.getElem?_modify]
    by_cases e : g = b
    · subst e
      rw [if_pos rfl, hg]
      exact .inr ⟨_, _, _, _, rfl, rfl⟩
    · rw [if_neg e]; exact .inl rfl
  · intro B hB
    have hBg := hB g rfl
    unfold World.freeze
    rw [if_neg (by decide)]
    exact ⟨rfl, rfl, rfl, by simp, fun k hk => by simp only [Array.getElem?_modify]; rw [if_neg (by omega)]⟩
end Go.Proofs.Ytjbpgjfnccmdaaa
end

section
set_option linter.unusedSimpArgs false
set_option linter.unusedVariables false
namespace Go.Proofs.Ytjbpgjfnccmdaaa
open Go.RowKit

/-- all that was there is as it was. -/
def Ext (w w' : World) : Prop := Below w.heap.size w w'
theorem Ext.refl (w : World) : Ext w w := Below.refl _ _
theorem Ext.trans {a b c : World} (h1 : Ext a b) (h2 : Ext b c) : Ext a c := Below.trans h1 (Below.mono h2 (Below.size h1))
theorem Ext.size {a b : World} (h : Ext a b) : a.heap.size ≤ b.heap.size := Below.size h
structure StayS (B : Nat) (w w' : World) : Prop where
  below : Below B w w'
  ext : Below w.heap.size w w'
theorem StayS.refl (B : Nat) (w : World) : StayS B w w := ⟨Below.refl _ _, Below.refl _ _⟩
theorem StayS.of {B : Nat} {w w' : World} (h : Below w.heap.size w w') (hB : B ≤ w.heap.size) : StayS B w w' := ⟨h.mono hB, h⟩
def KeepsS (F : Value → World → Prop) : Prop := ∀ v w w', F v w → Below w.heap.size w w' → F v w'
def ttKeepsS (T : TT) : Prop := match T with
  | .inl _ => True
  | .inr F => KeepsS F
theorem ttKeepsS.on {T : TT} (h : ttKeepsS T) {v : Value} {B : Nat} {w w' : World} (hv : ttHolds T v w) (hb : StayS B w w') : ttHolds T v w' := by
  cases T with
  | inl c => exact hv
  | inr F => exact h v w w' hv hb.ext
def relUponS (P : Program) (B : Nat) (T : TT) (w : World) : Result Next → Prop
  | .ok (.value v) w' => StayS B w w' ∧ ttHolds T v w'
  | .ok (.enter f args) w' => w' = w ∧ Calls P f args w (fun e w'' => ∃ v, e = .returned v ∧ StayS B w w'' ∧ ttHolds T v w'')
  | _ => False
def relOpS (P : Program) (B : Nat) (ops : Array Oper) (o : Oper) (a : Act) (T : TT) (w : World) : Prop :=
  if Region.wanted o (yielded ops a.tmps) then relUponS P B T w ((execOp a.eval o).run P w) else ttHolds T undef w
def relWalkS (P : Program) (ops : Array Oper) (w0 : World) (fin : Act → World → Prop) : List Oper → List TT → Act → List (Tmp × (World → Prop)) → Prop
  | o :: os, T :: Ts, a, Φ => (∀ w, Below w0.heap.size w0 w → factsOn Φ (o.looksAt ops) w → relOpS P w0.heap.size ops o a T w) ∧
      (match T with
       | .inl c => relWalkS P ops w0 fin os Ts (a.put o.dst c) Φ
       | .inr F => KeepsS F ∧ ∀ v, relWalkS P ops w0 fin os Ts (a.put o.dst v) (Φ ++ [(o.dst.getD 0, F v)]))
  | _, _, a, Φ => ∀ w, Below w0.heap.size w0 w → (∀ p ∈ Φ, p.2 w) → fin a w


section
variable {P : Program} {ops : Array Oper} {w0 : World} {fin : Act → World → Prop}
theorem relWalk_atS : ∀ (os : List Oper) (Ts : List TT) (a : Act) (Φ : List (Tmp × (World → Prop))) (vs : Nat → Value) (k : Nat) (o : Oper) (T : TT), relWalkS P ops w0 fin os Ts a Φ → os[k]? = some o → Ts[k]? = some T →
    ∀ w, Below w0.heap.size w0 w → factsOn Φ (o.looksAt ops) w → (∀ j o' F, j < k → os[j]? = some o' → Ts[j]? = some (Sum.inr F : TT) → o'.dst.getD 0 ∈ o.looksAt ops → F (vs j) w) → relOpS P w0.heap.size ops o (lexA os Ts vs k a) T w
  | [], _, _, _, _, _, _, _, _, h, _ => by simp at h
  | _ :: _, [], _, _, _, _, _, _, _, _, h => by simp at h
  | o :: os, T :: Ts, a, Φ, vs, 0, o', T', h, ho, hT => by
    simp only [List.getElem?_cons_zero, Option.some.injEq] at ho hT
    subst ho hT
    intro w hb hf _
    simp only [lexA]
    exact h.1 w hb hf
  | o :: os, T :: Ts, a, Φ, vs, k + 1, o', T', h, ho, hT => by
    intro w hb hf hF
    simp only [lexA]
    cases T with
    | inl c => exact relWalk_atS os Ts _ Φ (fun j => vs (j + 1)) k o' T' h.2 (by simpa using ho) (by simpa using hT) w hb hf (fun j o'' F hj h1 h2 h3 => hF (j + 1) o'' F (by omega) (by simpa using h1) (by simpa using h2) h3)
    | inr F0 =>
      refine relWalk_atS os Ts _ _ (fun j => vs (j + 1)) k o' T' (h.2.2 (vs 0)) (by simpa using ho) (by simpa using hT) w hb ?_ (fun j o'' F hj h1 h2 h3 => hF (j + 1) o'' F (by omega) (by simpa using h1) (by simpa using h2) h3)
      intro p hp ht
      rcases List.mem_append.1 hp with hp | hp
      · exact hf p hp ht
      · simp only [List.mem_singleton] at hp
        subst hp
        exact hF 0 o F0 (by omega) rfl rfl ht
theorem relWalk_endS : ∀ (os : List Oper) (Ts : List TT) (a : Act) (Φ : List (Tmp × (World → Prop))) (vs : Nat → Value), os.length = Ts.length → relWalkS P ops w0 fin os Ts a Φ →
    ∀ w, Below w0.heap.size w0 w → (∀ p ∈ Φ, p.2 w) → (∀ j F, Ts[j]? = some (Sum.inr F : TT) → F (vs j) w) → fin (lexA os Ts vs os.length a) w
  | [], [], a, Φ, vs, _, h => fun w hb hf _ => by simpa [lexA] using h w hb hf
  | [], _ :: _, _, _, _, h, _ => by simp at h
  | _ :: _, [], _, _, _, h, _ => by simp at h
  | o :: os, T :: Ts, a, Φ, vs, hl, h => by
    intro w hb hf hF
    simp only [List.length_cons, lexA]
    cases T with
    | inl c => exact relWalk_endS os Ts _ Φ (fun j => vs (j + 1)) (by simpa using hl) h.2 w hb hf (fun j F hj => hF (j + 1) F (by simpa using hj))
    | inr F0 =>
      refine relWalk_endS os Ts _ _ (fun j => vs (j + 1)) (by simpa using hl) (h.2.2 (vs 0)) w hb ?_ (fun j F hj => hF (j + 1) F (by simpa using hj))
      intro p hp
      rcases List.mem_append.1 hp with hp | hp
      · exact hf p hp
      · simp only [List.mem_singleton] at hp
        subst hp
        exact hF 0 F0 rfl
theorem relWalk_keepsS : ∀ (os : List Oper) (Ts : List TT) (a : Act) (Φ : List (Tmp × (World → Prop))), os.length = Ts.length → relWalkS P ops w0 fin os Ts a Φ → ∀ T ∈ Ts, ttKeepsS T
  | [], [], _, _, _, _ => fun T h => by simp at h
  | [], _ :: _, _, _, h, _ => by simp at h
  | _ :: _, [], _, _, h, _ => by simp at h
  | o :: os, T :: Ts, a, Φ, hl, h => by
    intro T' hT'
    cases T with
    | inl c =>
      rcases List.mem_cons.1 hT' with rfl | hT'
      · trivial
      · exact relWalk_keepsS os Ts _ Φ (by simpa using hl) h.2 T' hT'
    | inr F =>
      rcases List.mem_cons.1 hT' with rfl | hT'
      · exact h.2.1
      · exact relWalk_keepsS os Ts _ _ (by simpa using hl) (h.2.2 undef) T' hT'
end

structure RelInvS (ops : Array Oper) (w0 : World) (a0 : Act) (Ts : List TT) (n : Nat) (listed : Array Bool) (a : Act) (w : World) : Prop where
  hb : Below w0.heap.size w0 w
  hd : a.defers = a0.defers
  hs : a.tmps.size = a0.tmps.size
  hsz : listed.size = ops.size
  hcl : relClosed ops (fun k => listed.getD k false = true)
  hn : ∀ i, n ≤ i → listed.getD i false = false
  hT : ∀ (i : Nat) (o : Oper) (T : TT), ops[i]? = some o → Ts[i]? = some T → listed.getD i false = true → ttHolds T (a.tmps.getD (o.dst.getD 0) undef) w
  h0 : ∀ t, (∀ (i : Nat) (o : Oper), ops[i]? = some o → listed.getD i false = true → o.dst ≠ some t) → a.tmps[t]? = a0.tmps[t]?

theorem RelInvS.step {ops : Array Oper} {w0 : World} {a0 : Act} {Ts : List TT} {n : Nat} {listed : Array Bool} {a : Act} {w w' : World} (hok : RelOk ops n a0.tmps.size) (hk : ∀ T ∈ Ts, ttKeepsS T)
    (I : RelInvS ops w0 a0 Ts n listed a w) {i : Nat} {o : Oper} {T : TT} {v : Value} (ho : ops[i]? = some o) (hTi : Ts[i]? = some T) (hin : i < n) (hr : ∀ e ∈ o.after, Region.binds .any e = true → listed.getD e.on false = true)
    (hbw : StayS w0.heap.size w w') (hv : ttHolds T v w') : RelInvS ops w0 a0 Ts n (listed.setIfInBounds i true) (a.put o.dst v) w' := by
  obtain ⟨t, hd, ht, hu⟩ := hok.dst i o ho hin
  have his : i < listed.size := by rw [I.hsz]; exact (Array.getElem?_eq_some_iff.1 ho).1
  refine ⟨I.hb.trans hbw.below, by rw [hd]; exact I.hd, by rw [hd]; simpa [Act.put] using I.hs, by simpa using I.hsz, ?_, ?_, ?_, ?_⟩
  · intro k o' ho' hk' e he hbd
    simp only [getD_set _ _ _ his] at hk' ⊢
    by_cases hki : k = i
    · subst hki
      rw [ho] at ho'; cases ho'
      rw [hr e he hbd]; split <;> rfl
    · rw [if_neg hki] at hk'
      have := I.hcl k o' ho' hk' e he hbd
      split
      · rfl
      · exact this
  · intro j hj
    rw [getD_set _ _ _ his, if_neg (by omega)]
    exact I.hn j hj
  · intro j o' T' ho' hT' hl
    rw [getD_set _ _ _ his] at hl
    by_cases hji : j = i
    · subst hji
      rw [ho] at ho'; cases ho'
      rw [hTi] at hT'; cases hT'
      rw [hd, Array.getD_eq_getD_getElem?, Option.getD_some, put_get _ _ _ (by rw [I.hs]; exact ht)]
      exact hv
    · rw [if_neg hji] at hl
      have hne := hu j o' ho' hji
      have hjn : j < n := by
        rcases Nat.lt_or_ge j n with h | h
        · exact h
        · rw [I.hn j h] at hl; cases hl
      obtain ⟨t', hd', _, _⟩ := hok.dst j o' ho' hjn
      have h1 := I.hT j o' T' ho' hT' hl
      rw [hd', Option.getD_some, Array.getD_eq_getD_getElem?] at h1 ⊢
      rw [hd, put_get_ne _ _ _ _ (fun e => hne (by rw [hd', ← e]))]
      exact (hk T' (List.mem_of_getElem? hT')).on h1 hbw
  · intro t' ht'
    have hne : some t ≠ some t' := fun e => by
      have := ht' i o ho (by rw [getD_set _ _ _ his, if_pos rfl])
      exact this (by rw [hd, e])
    rw [hd, put_get_ne _ _ _ _ hne]
    exact I.h0 t' fun j o' ho' hl => ht' j o' ho' (by
      rw [getD_set _ _ _ his]
      split
      · rfl
      · exact hl)

theorem relFrontS {P : Program} {ops : Array Oper} {n : Nat} {Q : Exit → Act → World → Prop} {w0 : World} {a0 : Act} {Ts : List TT} (hok : RelOk ops n a0.tmps.size) (hl : Ts.length = n)
    (hw : relWalkS P ops w0 (fun a w => wpList P ops Q (ops.toList.drop n) a w) (ops.toList.take n) Ts a0 []) :
    ∀ (fuel : Nat) (listed : Array Bool) (a : Act) (w : World), RelInvS ops w0 a0 Ts n listed a w → unl listed ops.size = fuel → wpAny P .any ops Q fuel listed a w := by
  have hlen : (ops.toList.take n).length = Ts.length := by rw [hl]; have := hok.le; simp; omega
  have hk := relWalk_keepsS _ _ _ _ hlen hw
  have hTs : ∀ i, i < n → ∃ T, Ts[i]? = some T := fun i hi => ⟨_, List.getElem?_eq_getElem (by omega)⟩
  have hos : ∀ i (o : Oper), i < n → ((ops.toList.take n)[i]? = some o ↔ ops[i]? = some o) := fun i o hi => by simp [List.getElem?_take, hi]
  -- a frame in which each of the first k slots holds what was left in it
  have same : ∀ (k : Nat) (listed : Array Bool) (a : Act) (w : World), RelInvS ops w0 a0 Ts n listed a w → k ≤ n → ∀ t,
      (∀ (j : Nat) (o : Oper), j < k → ops[j]? = some o → o.dst = some t → listed.getD j false = true) → (∀ (j : Nat) (o : Oper), k ≤ j → ops[j]? = some o → o.dst = some t → listed.getD j false = false) →
      a.tmps[t]? = (lexA (ops.toList.take n) Ts (fun j => a.tmps.getD (((ops[j]?).bind (·.dst)).getD 0) undef) k a0).tmps[t]? := by
    intro k listed a w I hkn t h1 h2
    by_cases hex : ∃ (j : Nat) (o : Oper), j < k ∧ ops[j]? = some o ∧ o.dst = some t
    · obtain ⟨j, o, hj, ho, hd⟩ := hex
      obtain ⟨T, hT⟩ := hTs j (by omega)
      obtain ⟨t', hd', ht', hu⟩ := hok.dst j o ho (by omega)
      rw [hd] at hd'; cases hd'
      rw [lexA_get _ _ _ k a0 t j o T hj ((hos j o (by omega)).2 ho) hT hd ht' (fun i o' hi hik ho' => hu i o' ((hos i o' (by omega)).1 ho') (by omega))]
      have h3 := I.hT j o T ho hT (h1 j o hj ho hd)
      rw [hd, Option.getD_some] at h3
      have h4 : a.tmps[t]? = some (a.tmps.getD t undef) := by
        rw [Array.getD_eq_getD_getElem?, Array.getElem?_eq_getElem (by rw [I.hs]; exact ht')]; rfl
      rw [h4]
      simp only [ho, Option.bind_some, hd, Option.getD_some]
      cases T with
      | inl c => exact congrArg some h3
      | inr F => rfl
    · rw [lexA_ne _ _ _ k a0 t (fun j o hj ho hd => hex ⟨j, o, hj, (hos j o (by omega)).1 ho, hd⟩)]
      refine I.h0 t fun j o ho hlj hd => ?_
      rcases Nat.lt_or_ge j k with h | h
      · exact hex ⟨j, o, h, ho, hd⟩
      · rw [h2 j o h ho hd] at hlj; cases hlj
  have full : ∀ (fuel : Nat) (listed : Array Bool) (a : Act) (w : World), RelInvS ops w0 a0 Ts n listed a w → unl listed ops.size = fuel → (∀ i, i < n → listed.getD i false = true) → wpAny P .any ops Q fuel listed a w := by
    intro fuel listed a w I hf hall
    have hfu : (ops.toList.drop n).length = fuel := by
      rw [← hf]
      unfold unl
      rw [List.filter_congr (q := fun i => decide (n ≤ i)) (fun i hi => by
        by_cases h : n ≤ i
        · rw [I.hn i h]; simp [h]
        · rw [hall i (by omega)]; simp [h]), filter_ge]
      simp
    rw [← hfu]
    refine relTail hok (ops.toList.drop n) n listed a w (Nat.le_refl _) (by have := hok.le; simp; omega) rfl I.hsz (fun i hi => ?_) ?_
    · rcases Nat.lt_or_ge i n with h | h
      · exact ⟨fun _ => h, fun _ => hall i h⟩
      · rw [I.hn i h]; exact ⟨(fun h' => by cases h'), (fun h' => by omega)⟩
    · have he := relWalk_endS (ops.toList.take n) Ts a0 [] (fun j => a.tmps.getD (((ops[j]?).bind (·.dst)).getD 0) undef) hlen hw w I.hb (by simp) (fun j F hF => by
        have hj : j < n := by have := (List.getElem?_eq_some_iff.1 hF).1; omega
        obtain ⟨o, ho⟩ : ∃ o, ops[j]? = some o := ⟨_, Array.getElem?_eq_getElem (by have := hok.le; omega)⟩
        have h3 := I.hT j o _ ho hF (hall j hj)
        simp only [ho, Option.bind_some]
        exact h3)
      have hA : a = lexA (ops.toList.take n) Ts (fun j => a.tmps.getD (((ops[j]?).bind (·.dst)).getD 0) undef) (ops.toList.take n).length a0 := by
        rw [hlen, hl]
        have h1 : a.tmps = (lexA (ops.toList.take n) Ts (fun j => a.tmps.getD (((ops[j]?).bind (·.dst)).getD 0) undef) n a0).tmps := by
          apply Array.ext'
          apply List.ext_getElem?
          intro t
          rw [Array.getElem?_toList, Array.getElem?_toList]
          exact same n listed a w I (Nat.le_refl _) t (fun j o hj _ _ => hall j hj) (fun j o hj _ _ => I.hn j hj)
        have h2 := lexA_defers (ops.toList.take n) Ts (fun j => a.tmps.getD (((ops[j]?).bind (·.dst)).getD 0) undef) n a0
        cases a with
        | mk tm df =>
          cases hx : lexA (ops.toList.take n) Ts (fun j => (Act.mk tm df).tmps.getD (((ops[j]?).bind (·.dst)).getD 0) undef) n a0 with
          | mk tm' df' =>
            rw [hx] at h1 h2
            have h3 := I.hd
            simp only at h1 h2 h3
            rw [h1, h3, h2]
      rw [← hA] at he
      exact he
  intro fuel
  induction fuel with
  | zero =>
    intro listed a w I hf
    refine full 0 listed a w I hf fun i hi => ?_
    cases h : listed.getD i false with
    | true => rfl
    | false =>
      exfalso
      have : i ∈ (List.range ops.size).filter (fun i => !listed.getD i false) := by
        simp only [List.mem_filter, List.mem_range]
        exact ⟨by have := hok.le; omega, by rw [h]; rfl⟩
      unfold unl at hf
      rw [List.length_eq_zero_iff.1 hf] at this
      simp at this
  | succ fuel ih =>
    intro listed a w I hf
    by_cases hall : ∀ i, i < n → listed.getD i false = true
    · exact full (fuel + 1) listed a w I hf hall
    · have hex : ∃ k, k < n ∧ listed.getD k false = false ∧ ∀ j, j < k → listed.getD j false = true := by
        have : ∃ k, k < n ∧ listed.getD k false = false := by
          apply Classical.byContradiction
          intro hne
          apply hall
          intro i hi
          cases h : listed.getD i false with
          | true => rfl
          | false => exact absurd ⟨i, hi, h⟩ hne
        obtain ⟨k, hk1, hk2⟩ := this
        induction k using Nat.strongRecOn with
        | ind k ihk =>
          by_cases hj : ∀ j, j < k → listed.getD j false = true
          · exact ⟨k, hk1, hk2, hj⟩
          · obtain ⟨j, hj1, hj2⟩ : ∃ j, j < k ∧ listed.getD j false = false := by
              apply Classical.byContradiction
              intro hne
              apply hj
              intro j hjk
              cases h : listed.getD j false with
              | true => rfl
              | false => exact absurd ⟨j, hjk, h⟩ hne
            exact ihk j hj1 (by omega) hj2
      obtain ⟨k, hkn, hkl, hkm⟩ := hex
      have rdy : ∀ i, i ∈ Region.ready .any ops listed ↔ i < ops.size ∧ listed.getD i false = false ∧ ∀ (o : Oper), ops[i]? = some o → ∀ e ∈ o.after, Region.binds .any e = true → listed.getD e.on false = true := by
        intro i
        unfold Region.ready
        simp only [List.mem_filter, List.mem_range, Bool.and_eq_true, Bool.not_eq_true']
        constructor
        · rintro ⟨h1, h2, h3⟩
          refine ⟨h1, ?_, fun o ho e he hb => ?_⟩
          · rw [Array.getD_eq_getD_getElem?, Array.getElem?_eq_getElem (by rw [I.hsz]; exact h1)] at h2 ⊢; exact h2
          · rw [ho] at h3
            simp only [Option.map_some, Option.getD_some, Array.all_eq_true_iff_forall_mem, Bool.or_eq_true, Bool.not_eq_true'] at h3
            rcases h3 e he with h | h
            · rw [hb] at h; cases h
            · exact h
        · rintro ⟨h1, h2, h3⟩
          refine ⟨h1, ?_, ?_⟩
          · rw [Array.getD_eq_getD_getElem?, Array.getElem?_eq_getElem (by rw [I.hsz]; exact h1)] at h2 ⊢; exact h2
          · rw [Array.getElem?_eq_getElem h1]
            simp only [Option.map_some, Option.getD_some, Array.all_eq_true_iff_forall_mem, Bool.or_eq_true, Bool.not_eq_true']
            intro e he
            cases hb : Region.binds .any e with
            | false => exact .inl rfl
            | true => exact .inr (h3 _ (Array.getElem?_eq_getElem h1) e he hb)
      refine ⟨fun hr => ?_, fun i hi => ?_⟩
      · exfalso
        have : k ∈ Region.ready .any ops listed := (rdy k).2 ⟨by have := hok.le; omega, hkl, fun o ho e he hb => hkm _ (hok.early k o ho e he)⟩
        rw [hr] at this
        simp at this
      · obtain ⟨hi1, hi2, hi3⟩ := (rdy i).1 hi
        obtain ⟨o, ho⟩ : ∃ o, ops[i]? = some o := ⟨_, Array.getElem?_eq_getElem hi1⟩
        have hdep : ∀ j, depB (rmasks ops.toList []) i j = true → j ≠ i → listed.getD j false = true := by
          intro j hd hji
          have := dep_closed (ops := ops) (S := fun k => listed.getD k false = true ∨ k = i) (fun k o' ho' hk' e he hb => by
            rcases hk' with hk' | rfl
            · exact .inl (I.hcl k o' ho' hk' e he hb)
            · exact .inl (hi3 o' ho' e he hb)) (.inr rfl) hd
          exact this.resolve_right hji
        have hin : i < n := by
          rcases Nat.lt_or_ge i n with h | h
          · exact h
          · have := hdep k (hok.tail i o ho h k (by omega)) (by omega)
            rw [hkl] at this; cases this
        obtain ⟨T, hT⟩ := hTs i hin
        have hup : ∀ j, i < j → depB (rmasks ops.toList []) j i = true → listed.getD j false = false := by
          intro j hij hd
          cases h : listed.getD j false with
          | false => rfl
          | true => have h' : listed.getD i false = true := dep_closed I.hcl h hd; rw [hi2] at h'; cases h'
        have hsame : ∀ t ∈ o.looksAt ops, a.tmps[t]? = (lexA (ops.toList.take n) Ts (fun j => a.tmps.getD (((ops[j]?).bind (·.dst)).getD 0) undef) i a0).tmps[t]? := by
          intro t ht
          refine same i listed a w I (by omega) t (fun j o' hj ho' hd => ?_) (fun j o' hj ho' hd => ?_)
          · exact hdep j ((hok.looks i o ho hin t ht j o' ho' hd).1 hj) (by omega)
          · by_cases hji : j = i
            · rw [hji]; exact hi2
            · exact hup j (by omega) ((hok.looks i o ho hin t ht j o' ho' hd).2 (by omega))
        have hop := relWalk_atS (ops.toList.take n) Ts a0 [] (fun j => a.tmps.getD (((ops[j]?).bind (·.dst)).getD 0) undef) i o T hw ((hos i o hin).2 ho) hT w I.hb (fun p hp => by simp at hp) (fun j o' F hj ho' hF hd => by
          have ho'' := (hos j o' (by omega)).1 ho'
          obtain ⟨t', hd', _, _⟩ := hok.dst j o' ho'' (by omega)
          rw [hd', Option.getD_some] at hd
          have h3 := I.hT j o' _ ho'' hF (hdep j ((hok.looks i o ho hin t' hd j o' ho'' hd').1 hj) (by omega))
          simp only [ho'', Option.bind_some]
          exact h3)
        have hunl : unl (listed.setIfInBounds i true) ops.size = fuel := by
          have h1 := filter_one (fun j => !listed.getD j false) (fun j => !(listed.setIfInBounds i true).getD j false) i (by simp [hi2]) (by rw [getD_set _ _ _ (by rw [I.hsz]; exact hi1), if_pos rfl]; rfl) (fun j hj => by rw [getD_set _ _ _ (by rw [I.hsz]; exact hi1), if_neg hj]) ops.size hi1
          unfold unl at hf ⊢
          omega
        have hgo : ∀ v w', StayS w0.heap.size w w' → ttHolds T v w' → wpAny P .any ops Q fuel (listed.setIfInBounds i true) (a.put o.dst v) w' := fun v w' h1 h2 =>
          ih _ _ _ (I.step hok hk ho hT hin (hi3 o ho) h1 h2) hunl
        unfold relOpS at hop
        rw [← wanted_congr hsame, ← eval_congr (ops := ops) (hok.nosel i o · · ho) hsame] at hop
        unfold wpOp
        rw [ho]
        simp only
        split
        · rename_i hwa
          rw [if_pos hwa] at hop
          refine .inl ?_
          unfold Oper.wp
          cases hrun : (execOp a.eval o).run P w with
          | halt h w' => rw [hrun] at hop; simp [relUponS] at hop
          | ok x w' =>
            rw [hrun] at hop
            cases x with
            | value v => exact hgo v w' hop.1 hop.2
            | enter f args =>
              obtain ⟨rfl, hc⟩ := hop
              refine hc.mono ?_
              rintro e w'' ⟨v, rfl, h1, h2⟩
              exact hgo v w'' h1 h2
            | _ => simp [relUponS] at hop
        · rename_i hwa
          rw [if_neg hwa] at hop
          exact hgo undef w (StayS.refl _ _) hop

/-- ONE WALK IN THE TEXT's ORDER SERVES EVERY ORDER. -/
theorem wp_region_relS {P : Program} {id : Nat} {Q : Exit → Act → World → Prop} {a : Act} {w : World} {l : List Oper} (n : Nat) (Ts : List TT) (hm : P.follows .mixedOrders = true) (hB : relOkB l.toArray n a.tmps.size = true) (hl : Ts.length = n)
    (h : relWalkS P l.toArray w (fun a' w' => wpList P l.toArray Q (l.drop n) a' w') (l.take n) Ts a []) : (Code.region id l.toArray true).wp P Q a w := by
  have hok := relOk_of hB
  refine wp_region_any hm (relFrontS (w0 := w) (a0 := a) hok hl h _ _ a w.drew ⟨(Below.refl _ _).drew, rfl, rfl, by simp, ?_, ?_, ?_, ?_⟩ ?_)
  · intro k o ho hk
    exfalso
    simp only [Array.getD_eq_getD_getElem?] at hk
    by_cases h : k < l.length <;> simp [h] at hk
  · intro i hi; simp [Array.getD_eq_getD_getElem?]
    by_cases h : i < l.length <;> simp [h]
  · intro i o T ho hT hk
    exfalso
    rw [Array.getD_eq_getD_getElem?] at hk
    by_cases h : i < l.length <;> simp [h] at hk
  · intro t _; rfl
  · unfold unl
    rw [List.filter_congr (q := fun _ => true) (fun i hi => by
      rw [Array.getD_eq_getD_getElem?]
      by_cases h : i < l.length <;> simp [h]), List.filter_eq_self.2 (fun _ _ => rfl)]
    simp

attribute [go_sem] relOpS relUponS
theorem rel_isS {P : Program} {ops : Array Oper} {w0 : World} {fin : Act → World → Prop} {o : Oper} {os : List Oper} {Ts : List TT} {a : Act} {Φ : List (Tmp × (World → Prop))} {c : Value}
    (h1 : ∀ w, Below w0.heap.size w0 w → factsOn Φ (o.looksAt ops) w → relOpS P w0.heap.size ops o a (.inl c) w) (h2 : relWalkS P ops w0 fin os Ts (a.put o.dst c) Φ) : relWalkS P ops w0 fin (o :: os) (.inl c :: Ts) a Φ := ⟨h1, h2⟩
theorem rel_fitsS {P : Program} {ops : Array Oper} {w0 : World} {fin : Act → World → Prop} {o : Oper} {os : List Oper} {Ts : List TT} {a : Act} {Φ : List (Tmp × (World → Prop))} {F : Value → World → Prop}
    (h1 : ∀ w, Below w0.heap.size w0 w → factsOn Φ (o.looksAt ops) w → relOpS P w0.heap.size ops o a (.inr F) w) (hk : KeepsS F) (h2 : ∀ v, relWalkS P ops w0 fin os Ts (a.put o.dst v) (Φ ++ [(o.dst.getD 0, F v)])) : relWalkS P ops w0 fin (o :: os) (.inr F :: Ts) a Φ := ⟨h1, hk, h2⟩
theorem rel_endS {P : Program} {ops : Array Oper} {w0 : World} {fin : Act → World → Prop} {a : Act} {Φ : List (Tmp × (World → Prop))}
    (h : ∀ w, Below w0.heap.size w0 w → (∀ p ∈ Φ, p.2 w) → fin a w) : relWalkS P ops w0 fin [] [] a Φ := h
theorem rel_callS {P : Program} {ops : Array Oper} {o : Oper} {a : Act} {T : TT} {w0 W : World} (hW : Below w0.heap.size w0 W) (hw : Region.wanted o (yielded ops a.tmps) = true) {f : FuncId} {args : Array Value} (hr : (execOp a.eval o).run P W = .ok (.enter f args) W)
    (h : Calls P f args W fun e w'' => ∃ v, e = .returned v ∧ Below W.heap.size W w'' ∧ ttHolds T v w'') : relOpS P w0.heap.size ops o a T W := by
  unfold relOpS
  rw [if_pos hw, hr]
  exact ⟨rfl, h.mono fun e w'' ⟨v, h1, h2, h3⟩ => ⟨v, h1, StayS.of h2 hW.size, h3⟩⟩
theorem StayS.alloc {w0 w : World} (h : Below w0.heap.size w0 w) (o : Obj) : StayS w0.heap.size w (w.alloc o) := StayS.of (below_alloc w o) h.size
/-- 'append(s, a, b, ..)': the new elements lie in a block of their own. -/
theorem wpList_append_lit {P : Program} {t e : TypeId} {z : Value} {bytes : Nat} (E : El P t e z bytes) {ops : Array Oper} {rest : List Oper} {o : Oper} {a : Act} {Q : Exit → Act → World → Prop} {w : World} (us : List Value) (cs : Array Value) (hcs : cs = us.toArray) (hgd : o.guard = none) (s x : Operand)
    (ho : o.op = .call { callee := .builtin .append, args := #[s, x], argTypes := #[t, t] }) (base : Nat) (hu : ∀ u ∈ us, u.oneCell' = true) (m : Nat) (hm : us.length = m)
    (v : Value) (n : Nat) (xs : List Value) (hs : a.eval s = v) (hown : w.ownsRow base e 1 v n xs) (hx : a.eval x = .slice (some ⟨w.heap.size, 0, none⟩) m m)
    (h63 : n + m ≤ 1000000000000) (hbytes : bytes ≤ 100) (w0 : World) (hB : base ≤ w0.heap.size) (hbel : Below base w0 w)
    (h : ∀ v' w', w'.ownsRow base e 1 v' (n + m) (xs ++ us) → Below base w0 w' → w.grownBy w' v.ownBlock → (v'.ownBlock = v.ownBlock ∨ v'.ownBlock = some (w.heap.size + 1)) → wpList P ops Q rest (a.put o.dst v') w') :
    wpList P ops Q (o :: rest) a (w.alloc (.cells cs e)) := by
  subst hcs
  refine wpList_append_src E hgd s x ho base v n xs hs (hown.alloc _) (w.heap.size + 1) (some ⟨w.heap.size, 0, none⟩) us m m hx hm ?_ (by intro h; cases h) hu (by omega) hbytes w0 hB (hbel.alloc (Nat.le_trans hB hbel.size) _) ?_
  · intro j y hy
    refine ⟨_, 0, rfl, by omega, ?_⟩
    rw [cell_blk (T := e) (heap_alloc_new _ _)]
    simpa using hy
  · intro v' w' h2 h3 h4 h5
    refine h v' w' h2 h3 ⟨h4.os, h4.tape, h4.output, Nat.le_trans (by simp) h4.size, fun i hi hne => (h4.block i (by simp; omega) hne).trans (Below.heap_alloc w _ i hi)⟩ (by simpa using h5)
/-- an own row. -/
def OwnR (B : Nat) (e : TypeId) (n : Nat) (xs : List Value) (v : Value) (w : World) : Prop := w.ownsRow B e 1 v n xs
theorem OwnR.keepsS (B : Nat) (e : TypeId) (n : Nat) (xs : List Value) : KeepsS (OwnR B e n xs) := fun v w w' h hb => own_below h hb
end Go.Proofs.Ytjbpgjfnccmdaaa
end

section
set_option linter.unusedSimpArgs false
set_option linter.unusedVariables false
namespace Go.Proofs.Ytjbpgjfnccmdaaa
open Go.RowKit

theorem SlB.keepsS (l : List UInt8) : KeepsS (SlB l) := fun v w w' h hb => by
  obtain ⟨A, cap, rfl, h1, h2⟩ := h
  exact ⟨A, cap, rfl, (h1.below hb).more hb.size, h2⟩
theorem own_base {w : World} {base base' n : Nat} {e : TypeId} {v : Value} {xs : List Value} (h : w.ownsRow base e 1 v n xs) (hb : base' ≤ base) : w.ownsRow base' e 1 v n xs := by
  refine ⟨h.1, ?_⟩
  rcases h.2 with h | ⟨g, cap, cur, h1, h2, h3⟩
  · exact .inl h
  · exact .inr ⟨g, cap, cur, h1, Nat.le_trans hb h2, h3⟩
theorem owns0 (w : World) (base : Nat) (e : TypeId) (hb : base ≤ w.heap.size) : (w.alloc (.cells #[] e)).ownsRow base e 1 (.slice (some ⟨w.heap.size, 0, none⟩) 0 0) 0 [] :=
  ⟨rfl, .inr ⟨w.heap.size, 0, #[], rfl, hb, heap_alloc_new _ _, Nat.le_refl _, by simp [maxLen], rfl, rfl⟩⟩
end Go.Proofs.Ytjbpgjfnccmdaaa
end

section
set_option linter.unusedSimpArgs false
set_option linter.unusedVariables false
namespace Go.Proofs.Ytjbpgjfnccmdaaa
open Go.RowKit

/-- the slice type t has elements of type e: sz cells each. -/
structure ElS (P : Program) (t e : TypeId) (z : Value) (sz bytes : Nat) : Prop where
  ht : P.underlying t = some (.slice e)
  hi : (P.info? e).map (fun i => (i.zero, i.size, i.bytes)) = some (some z, sz, bytes)
  hz : z.cells.size = sz
  hs : 0 < sz
theorem run_append_noneS {P : Program} {t e : TypeId} {z : Value} {sz bytes : Nat} (E : ElS P t e z sz bytes) (w : World) (base : Nat) (ty : TypeId)
    (v : Value) (n : Nat) (xs : List Value) (hown : w.ownsRow base e sz v n xs) (c : Nat) : (Builtin.append_ #[t, t] ty #[v, .slice none 0 c]).run P w = .ok v w := by
  have hi := E.hi
  cases hq : P.info? e with
  | none => rw [hq] at hi; simp at hi
  | some i =>
    rcases hown.2 with ⟨rfl, rfl⟩ | ⟨g, cap, cur, rfl, _, _, hnc, _⟩
    · simp [Builtin.append_, run_underlying E.ht, sizeOf, typeInfo, hq, Builtin.lenOf, Builtin.firstCells]
    · simp [Builtin.append_, run_underlying E.ht, sizeOf, typeInfo, hq, Builtin.lenOf, Builtin.firstCells, hnc, storeCells]

theorem run_append_srcS {P : Program} {t e : TypeId} {z : Value} {sz bytes : Nat} (E : ElS P t e z sz bytes) (w : World) (base : Nat) (ty : TypeId)
    (v : Value) (n : Nat) (xs : List Value) (hown : w.ownsRow base e sz v n xs) (B : Nat) (A : Option Addr) (news : List Value) (m c : Nat) (hm : news.length = m * sz) (hr : Rd w B A news)
    (hA : A = none → m = 0) (h1 : ∀ u ∈ news, u.oneCell' = true) (h63 : n + m ≤ 1000000000000) (hbytes : bytes ≤ 100) (hbase : base ≤ w.heap.size) :
    ∃ v' w', (Builtin.append_ #[t, t] ty #[v, .slice A m c]).run P w = .ok v' w' ∧ w'.ownsRow base e sz v' (n + m) (xs ++ news) ∧ w.grownBy w' v.ownBlock ∧
      (v'.ownBlock = v.ownBlock ∨ v'.ownBlock = some w.heap.size) := by
  rcases A with _ | ad
  · obtain rfl := hA rfl
    obtain rfl := List.eq_nil_of_length_eq_zero (by simpa using hm)
    exact ⟨v, w, run_append_noneS E w base ty v n xs hown c, by simpa using hown, World.grownBy.refl w _, .inl rfl⟩
  · obtain ⟨i, hi, hz0, hz1, hz2⟩ := info_parts E.hi
    have hb : (n + m) * bytes ≤ 140737488355328 := Nat.le_trans (Nat.mul_le_mul h63 hbytes) (by omega)
    obtain ⟨v', w', hrun, h2, h3, _, h5⟩ := run_append_own_at (P := P) w base t ty e i z sz bytes E.ht hi hz0 hz1 hz2 E.hz E.hs v n xs hown ad m c news hm (fun j u hu => by
      obtain ⟨b, off, e, _, hc⟩ := hr j u hu
      injection e with e
      subst e
      have hadd : (⟨b, off, none⟩ : Addr).add j = ⟨b, off + j, none⟩ := by unfold Addr.add; split <;> simp_all
      rw [hadd]; exact hc) h1 (by simp only [maxLen]; omega) hb hbase
    exact ⟨v', w', hrun, h2, h3, h5⟩

theorem wp_append_srcS {P : Program} {t e : TypeId} {z : Value} {sz bytes : Nat} (E : ElS P t e z sz bytes) {o : Oper} {a : Act} {K : Act → World → Prop} {Q : Exit → Act → World → Prop} (w : World) (s x : Operand)
    (ho : o.op = .call { callee := .builtin .append, args := #[s, x], argTypes := #[t, t] }) (base : Nat)
    (v : Value) (n : Nat) (xs : List Value) (hs : a.eval s = v) (hown : w.ownsRow base e sz v n xs) (B : Nat) (A : Option Addr) (news : List Value) (m c : Nat) (hx : a.eval x = .slice A m c) (hm : news.length = m * sz) (hr : Rd w B A news)
    (hA : A = none → m = 0) (h1 : ∀ u ∈ news, u.oneCell' = true) (h63 : n + m ≤ 1000000000000) (hbytes : bytes ≤ 100) (w0 : World) (hB : base ≤ w0.heap.size) (hbel : Below base w0 w)
    (h : ∀ v' w', w'.ownsRow base e sz v' (n + m) (xs ++ news) → Below base w0 w' → w.grownBy w' v.ownBlock → (v'.ownBlock = v.ownBlock ∨ v'.ownBlock = some w.heap.size) → K (a.put o.dst v') w') : o.wp P a w K Q := by
  obtain ⟨v', w', hrun, h2, h3, h4⟩ := run_append_srcS E w base o.type v n xs hown B A news m c hm hr hA h1 h63 hbytes (Nat.le_trans hB hbel.size)
  unfold Oper.wp execOp
  simp only [ho, resolve, invoke, builtin, Sem.run_bind, Sem.run_pure, Result.andThen_ok, List.map_toArray, List.map_cons, List.map_nil, hs, hx, hrun]
  exact h v' w' h2 (hbel.grown h3 (Nat.le_trans hB hbel.size) (fun k hk => (hown.lt k hk).1)) h3 h4

theorem wpList_append_srcS {P : Program} {t e : TypeId} {z : Value} {sz bytes : Nat} (E : ElS P t e z sz bytes) {ops : Array Oper} {rest : List Oper} {o : Oper} {a : Act} {Q : Exit → Act → World → Prop} {w : World} (hgd : o.guard = none) (s x : Operand)
    (ho : o.op = .call { callee := .builtin .append, args := #[s, x], argTypes := #[t, t] }) (base : Nat)
    (v : Value) (n : Nat) (xs : List Value) (hs : a.eval s = v) (hown : w.ownsRow base e sz v n xs) (B : Nat) (A : Option Addr) (news : List Value) (m c : Nat) (hx : a.eval x = .slice A m c) (hm : news.length = m * sz) (hr : Rd w B A news)
    (hA : A = none → m = 0) (h1 : ∀ u ∈ news, u.oneCell' = true) (h63 : n + m ≤ 1000000000000) (hbytes : bytes ≤ 100) (w0 : World) (hB : base ≤ w0.heap.size) (hbel : Below base w0 w)
    (h : ∀ v' w', w'.ownsRow base e sz v' (n + m) (xs ++ news) → Below base w0 w' → w.grownBy w' v.ownBlock → (v'.ownBlock = v.ownBlock ∨ v'.ownBlock = some w.heap.size) → wpList P ops Q rest (a.put o.dst v') w') : wpList P ops Q (o :: rest) a w :=
  wpList_plain hgd fun _ hK => wp_append_srcS E w s x ho base v n xs hs hown B A news m c hx hm hr hA h1 h63 hbytes w0 hB hbel fun v' w' h2 h3 h4 h5 => hK _ _ (h v' w' h2 h3 h4 h5)

theorem wpList_append_oneS {P : Program} {t e : TypeId} {z : Value} {sz bytes : Nat} (E : ElS P t e z sz bytes) {ops : Array Oper} {rest : List Oper} {o : Oper} {a : Act} {Q : Exit → Act → World → Prop} {w : World} (us : List Value) (cs : Array Value) (hcs : cs = us.toArray) (hgd : o.guard = none) (s x : Operand)
    (ho : o.op = .call { callee := .builtin .append, args := #[s, x], argTypes := #[t, t] }) (base : Nat) (hu : ∀ u ∈ us, u.oneCell' = true) (m : Nat) (hm : us.length = m * sz)
    (v : Value) (n : Nat) (xs : List Value) (hs : a.eval s = v) (hown : w.ownsRow base e sz v n xs) (hx : a.eval x = .slice (some ⟨w.heap.size, 0, none⟩) m m)
    (h63 : n + m ≤ 1000000000000) (hbytes : bytes ≤ 100) (w0 : World) (hB : base ≤ w0.heap.size) (hbel : Below base w0 w)
    (h : ∀ v' w', w'.ownsRow base e sz v' (n + m) (xs ++ us) → Below base w0 w' → w.grownBy w' v.ownBlock → (v'.ownBlock = v.ownBlock ∨ v'.ownBlock = some (w.heap.size + 1)) → wpList P ops Q rest (a.put o.dst v') w') :
    wpList P ops Q (o :: rest) a (w.alloc (.cells cs e)) := by
  subst hcs
  refine wpList_append_srcS E hgd s x ho base v n xs hs (hown.alloc _) (w.heap.size + 1) (some ⟨w.heap.size, 0, none⟩) us m m hx hm ?_ (by intro h; cases h) hu (by omega) hbytes w0 hB (hbel.alloc (Nat.le_trans hB hbel.size) _) ?_
  · intro j y hy
    refine ⟨_, 0, rfl, by omega, ?_⟩
    rw [cell_blk (T := e) (heap_alloc_new _ _)]
    simpa using hy
  · intro v' w' h2 h3 h4 h5
    refine h v' w' h2 h3 ⟨h4.os, h4.tape, h4.output, Nat.le_trans (by simp) h4.size, fun i hi hne => (h4.block i (by simp; omega) hne).trans (Below.heap_alloc w _ i hi)⟩ (by simpa using h5)
theorem owns0S (w : World) (base sz : Nat) (e : TypeId) (hb : base ≤ w.heap.size) : (w.alloc (.cells #[] e)).ownsRow base e sz (.slice (some ⟨w.heap.size, 0, none⟩) 0 0) 0 [] :=
  ⟨by simp, .inr ⟨w.heap.size, 0, #[], rfl, hb, heap_alloc_new _ _, Nat.le_refl _, by simp [maxLen], by simp, by simp⟩⟩
theorem own_rdS {w : World} {base sz : Nat} {e : TypeId} {v : Value} {n : Nat} {xs : List Value} (h : w.ownsRow base e sz v n xs) :
    ∃ A cap, v = .slice A n cap ∧ Rd w w.heap.size A xs ∧ (A = none → n = 0) ∧ n ≤ cap := by
  rcases h.2 with ⟨rfl, rfl⟩ | ⟨g, cap, cur, rfl, _, hg, hnc, _, hsz, htk⟩
  · refine ⟨none, 0, rfl, ?_, fun _ => rfl, Nat.le_refl _⟩
    have := h.1
    obtain rfl := List.eq_nil_of_length_eq_zero (by simpa using this)
    intro j u hu; simp at hu
  · refine ⟨some ⟨g, 0, none⟩, cap, rfl, fun j u hu => ⟨g, 0, rfl, lt_blk hg, ?_⟩, fun h => (by cases h), hnc⟩
    rw [cell_blk hg, Nat.zero_add]
    rw [← htk, List.getElem?_take] at hu
    split at hu
    · simpa using hu
    · cases hu
theorem own_belowS {w w' : World} {base sz : Nat} {e : TypeId} {v : Value} {n : Nat} {xs : List Value} (h : w.ownsRow base e sz v n xs) (hb : Below w.heap.size w w') : w'.ownsRow base e sz v n xs := by
  refine ⟨h.1, ?_⟩
  rcases h.2 with h | ⟨g, cap, cur, h1, h2, h3, h4⟩
  · exact .inl h
  · exact .inr ⟨g, cap, cur, h1, h2, (hb.block g (lt_blk h3)).trans h3, h4⟩
end Go.Proofs.Ytjbpgjfnccmdaaa
end

section
set_option linter.unusedSimpArgs false
set_option linter.unusedVariables false
namespace Go.Proofs.Ytjbpgjfnccmdaaa
open Go.RowKit

theorem boxes1 (w : World) (a : Obj) : (w.alloc a).heap[w.heap.size]? = some a ∧ Below w.heap.size w (w.alloc a) := ⟨heap_alloc_new _ _, below_alloc _ _⟩
theorem boxes2 (w : World) (a b : Obj) : ((w.alloc a).alloc b).heap[w.heap.size]? = some a ∧ ((w.alloc a).alloc b).heap[w.heap.size + 1]? = some b ∧ Below w.heap.size w ((w.alloc a).alloc b) := by
  have h := boxes1 w a
  refine ⟨alloc_blk h.1 _, ?_, h.2.alloc (by simp) _⟩
  have := heap_alloc_new (w.alloc a) b
  rwa [World.size_alloc] at this
theorem boxes3 (w : World) (a b c : Obj) : (((w.alloc a).alloc b).alloc c).heap[w.heap.size]? = some a ∧ (((w.alloc a).alloc b).alloc c).heap[w.heap.size + 1]? = some b ∧ (((w.alloc a).alloc b).alloc c).heap[w.heap.size + 1 + 1]? = some c ∧ Below w.heap.size w (((w.alloc a).alloc b).alloc c) := by
  have h := boxes2 w a b
  refine ⟨alloc_blk h.1 _, alloc_blk h.2.1 _, ?_, h.2.2.alloc (by simp; omega) _⟩
  have := heap_alloc_new ((w.alloc a).alloc b) c
  rwa [World.size_alloc, World.size_alloc] at this
theorem boxes4 (w : World) (a b c d : Obj) : ((((w.alloc a).alloc b).alloc c).alloc d).heap[w.heap.size]? = some a ∧ ((((w.alloc a).alloc b).alloc c).alloc d).heap[w.heap.size + 1]? = some b ∧ ((((w.alloc a).alloc b).alloc c).alloc d).heap[w.heap.size + 1 + 1]? = some c ∧ ((((w.alloc a).alloc b).alloc c).alloc d).heap[w.heap.size + 1 + 1 + 1]? = some d ∧ Below w.heap.size w ((((w.alloc a).alloc b).alloc c).alloc d) := by
  have h := boxes3 w a b c
  refine ⟨alloc_blk h.1 _, alloc_blk h.2.1 _, alloc_blk h.2.2.1 _, ?_, h.2.2.2.alloc (by simp; omega) _⟩
  have := heap_alloc_new (((w.alloc a).alloc b).alloc c) d
  rwa [World.size_alloc, World.size_alloc, World.size_alloc] at this
theorem boxes5 (w : World) (a b c d e : Obj) : (((((w.alloc a).alloc b).alloc c).alloc d).alloc e).heap[w.heap.size]? = some a ∧ (((((w.alloc a).alloc b).alloc c).alloc d).alloc e).heap[w.heap.size + 1]? = some b ∧ (((((w.alloc a).alloc b).alloc c).alloc d).alloc e).heap[w.heap.size + 1 + 1]? = some c ∧ (((((w.alloc a).alloc b).alloc c).alloc d).alloc e).heap[w.heap.size + 1 + 1 + 1]? = some d ∧ (((((w.alloc a).alloc b).alloc c).alloc d).alloc e).heap[w.heap.size + 1 + 1 + 1 + 1]? = some e ∧ Below w.heap.size w (((((w.alloc a).alloc b).alloc c).alloc d).alloc e) := by
  have h := boxes4 w a b c d
  refine ⟨alloc_blk h.1 _, alloc_blk h.2.1 _, alloc_blk h.2.2.1 _, alloc_blk h.2.2.2.1 _, ?_, h.2.2.2.2.alloc (by simp; omega) _⟩
  have := heap_alloc_new ((((w.alloc a).alloc b).alloc c).alloc d) e
  rwa [World.size_alloc, World.size_alloc, World.size_alloc, World.size_alloc] at this
end Go.Proofs.Ytjbpgjfnccmdaaa
end

section
set_option linter.unusedSimpArgs false
set_option linter.unusedVariables false
namespace Go.Proofs.Ytjbpgjfnccmdaaa
open Go.RowKit

/-- a copy of what no operation of the region writes: it may go first. -/
def hoistB (ops : Array Oper) (o : Oper) (k : Nat) : Bool :=
  o.guard.isNone && (match o.op with | .move _ => true | _ => false) &&
  (List.range ops.size).all fun j => j == k || match ops[j]? with | some oj => (oj.after.any fun e => e.on == k && Region.binds .any e) || o.apart ops oj | none => true
/-- what yields one value whatever the world. -/
def pureB (o : Oper) : Bool := o.guard.isNone && match o.op with | .move _ | .assign _ | .extract _ _ => true | _ => false
/-- it comes next, or may. -/
def soloB (ops : Array Oper) (m : List Nat) (k : Nat) (o : Oper) : Bool :=
  ((List.range ops.size).all fun j => decide (j ≤ k) || depB m j k) ||
  (pureB o && (List.range ops.size).all fun j => decide (j ≤ k) || match ops[j]? with | some oj => (oj.after.any fun e => e.on == k && Region.binds .any e) || o.apart ops oj | none => true)
theorem pure_yields {P : Program} {ops : Array Oper} {o : Oper} {a : Act} {Q : Exit → Act → World → Prop} {rest : List Oper} {w : World} (hp : pureB o = true) (h : wpList P ops Q (o :: rest) a w) : ∃ v, Yields P ops o v a ∧ wpList P ops Q rest (a.put o.dst v) w := by
  simp only [pureB, Bool.and_eq_true] at hp
  obtain ⟨hg, hop⟩ := hp
  have hgn : o.guard = none := by simpa using hg
  have hw : Region.wanted o (yielded ops a.tmps) = true := by unfold Region.wanted; rw [hgn]
  unfold wpList at h
  rw [if_pos hw] at h
  cases ho : o.op with
  | move x =>
    have hr : ∀ W, (execOp a.eval o).run P W = .ok (.value (a.eval x)) W := fun W => by unfold execOp; rw [ho]; rfl
    refine ⟨a.eval x, .inl ⟨hw, hr⟩, ?_⟩
    rcases h with h | ⟨h, _⟩
    · unfold Oper.wp at h; rw [hr] at h; exact h
    · have e : ((execOp a.eval o).runT P w #[]).2 = #[] := by unfold execOp; rw [ho]; rfl
      rw [Oper.asks, e] at h; simp at h
  | assign x =>
    have hr : ∀ W, (execOp a.eval o).run P W = .ok (.value (a.eval x)) W := fun W => by unfold execOp; rw [ho]; rfl
    refine ⟨a.eval x, .inl ⟨hw, hr⟩, ?_⟩
    rcases h with h | ⟨h, _⟩
    · unfold Oper.wp at h; rw [hr] at h; exact h
    · have e : ((execOp a.eval o).runT P w #[]).2 = #[] := by unfold execOp; rw [ho]; rfl
      rw [Oper.asks, e] at h; simp at h
  | extract x i =>
    have hrun : ∀ W, (execOp a.eval o).run P W = ((Instr.extract (a.eval x) i).run P W).andThen fun v W => .ok (.value v) W := fun W => by unfold execOp; rw [ho]; simp [Sem.run_bind]
    rcases h with h | ⟨h, _⟩
    · unfold Oper.wp at h
      rw [hrun] at h
      cases hx : a.eval x with
      | tuple vs =>
        cases hv : vs[i]? with
        | some v =>
          have hr : ∀ W, (execOp a.eval o).run P W = .ok (.value v) W := fun W => by rw [hrun, hx]; unfold Instr.extract; simp only [hv]; rfl
          rw [← hrun, hr] at h
          exact ⟨v, .inl ⟨hw, hr⟩, h⟩
        | none => rw [hx] at h; unfold Instr.extract at h; simp only [hv] at h; exact h.elim
      | _ => rw [hx] at h; exact h.elim
    · have e : ((execOp a.eval o).runT P w #[]).2 = #[] := by
        unfold execOp; rw [ho]
        cases hx : a.eval x with
        | tuple vs => cases hv : vs[i]? <;> simp only [hx, Instr.extract, hv] <;> rfl
        | _ => simp only [hx, Instr.extract] <;> rfl
      rw [Oper.asks, e] at h; simp at h
  | _ => rw [ho] at hop; cases hop
def relOkHB (H : List Nat) (ops : Array Oper) (n sz : Nat) : Bool :=
  let m := rmasks ops.toList []
  decide (n ≤ ops.size) && Region.noSelect ops &&
  (List.range ops.size).all fun k => match ops[k]? with
    | none => false
    | some o => o.after.all (fun e => decide (e.on < k) || !Region.binds .any e) && (if k < n then relFrontB ops m n sz k o && (!H.contains k || hoistB ops o k) else !H.contains k && (List.range n).all (fun j => H.contains j || depB m k j) && soloB ops m k o)

structure RelOkH (H : List Nat) (ops : Array Oper) (n sz : Nat) : Prop where
  le : n ≤ ops.size
  nosel : ∀ (j : Nat) (o : Oper) cs b, ops[j]? = some o → o.op ≠ .select cs b
  early : ∀ (k : Nat) (o : Oper), ops[k]? = some o → ∀ e ∈ o.after, Region.binds .any e = true → e.on < k
  dst : ∀ (k : Nat) (o : Oper), ops[k]? = some o → k < n → ∃ t, o.dst = some t ∧ t < sz ∧ ∀ (j : Nat) (o' : Oper), ops[j]? = some o' → j ≠ k → o'.dst ≠ some t
  looks : ∀ (k : Nat) (o : Oper), ops[k]? = some o → k < n → ∀ t ∈ o.looksAt ops, ∀ (j : Nat) (o' : Oper), ops[j]? = some o' → o'.dst = some t → (j < k → depB (rmasks ops.toList []) k j = true) ∧ (k < j → depB (rmasks ops.toList []) j k = true)
  tail : ∀ (k : Nat) (o : Oper), ops[k]? = some o → n ≤ k → (k ∉ H ∧ ∀ j, j < n → j ∈ H ∨ depB (rmasks ops.toList []) k j = true) ∧ soloB ops (rmasks ops.toList []) k o = true
  hoist : ∀ (k : Nat) (o : Oper), ops[k]? = some o → k ∈ H → k < n → hoistB ops o k = true
theorem relOkH_of {H : List Nat} {ops : Array Oper} {n sz : Nat} (h : relOkHB H ops n sz = true) : RelOkH H ops n sz := by
  simp only [relOkHB, Bool.and_eq_true, decide_eq_true_eq, List.all_eq_true, List.mem_range] at h
  obtain ⟨⟨h1, h2⟩, h3⟩ := h
  have key : ∀ (k : Nat) (o : Oper), ops[k]? = some o → o.after.all (fun e => decide (e.on < k) || !Region.binds .any e) = true ∧ (if k < n then (relFrontB ops (rmasks ops.toList []) n sz k o && (!H.contains k || hoistB ops o k)) = true else (!H.contains k && (List.range n).all (fun j => H.contains j || depB (rmasks ops.toList []) k j) && soloB ops (rmasks ops.toList []) k o) = true) := by
    intro k o ho
    have := h3 k (Array.getElem?_eq_some_iff.1 ho).1
    rw [ho] at this
    simp only [Bool.and_eq_true] at this
    refine ⟨this.1, ?_⟩
    have h2 := this.2
    split at h2
    · rename_i hk; rw [if_pos hk]; exact h2
    · rename_i hk; rw [if_neg hk]; exact h2
  refine ⟨h1, Region.noSelect_spec h2, ?_, ?_, ?_, ?_, ?_⟩
  · intro k o ho e he hb
    have := (key k o ho).1
    simp only [Array.all_eq_true_iff_forall_mem, Bool.or_eq_true, decide_eq_true_eq, Bool.not_eq_true'] at this
    rcases this e he with h | h
    · exact h
    · rw [hb] at h; cases h
  · intro k o ho hk
    have := (key k o ho).2
    rw [if_pos hk] at this
    rw [Bool.and_eq_true] at this
    have this := this.1
    simp only [relFrontB, Bool.and_eq_true] at this
    obtain ⟨h4, _⟩ := this
    cases hd : o.dst with
    | none => rw [hd] at h4; simp at h4
    | some t =>
      rw [hd] at h4
      simp only [Bool.and_eq_true, decide_eq_true_eq, List.all_eq_true, List.mem_range, Bool.or_eq_true, beq_iff_eq, bne_iff_ne] at h4
      refine ⟨t, rfl, h4.1, fun j o' ho' hjk => ?_⟩
      have := h4.2 j (Array.getElem?_eq_some_iff.1 ho').1
      rw [ho'] at this
      simpa [hjk] using this
  · intro k o ho hk t ht j o' ho' hd
    have := (key k o ho).2
    rw [if_pos hk] at this
    rw [Bool.and_eq_true] at this
    have this := this.1
    simp only [relFrontB, Bool.and_eq_true, List.all_eq_true, List.mem_range] at this
    have h5 := this.2 t ht j (Array.getElem?_eq_some_iff.1 ho').1
    rw [ho'] at h5
    simp [hd] at h5
    constructor
    · intro hjk; simpa [hjk] using h5
    · intro hkj
      have h1 : ¬ j < k := by omega
      have h2 : ¬ j = k := by omega
      simpa [h1, h2] using h5
  · intro k o ho hk
    have := (key k o ho).2
    rw [if_neg (by omega)] at this
    simp only [Bool.and_eq_true, Bool.not_eq_true', List.contains_eq_mem, decide_eq_false_iff_not, List.all_eq_true, List.mem_range, Bool.or_eq_true, decide_eq_true_eq] at this
    exact this
  · intro k o ho hH hk
    have := (key k o ho).2
    rw [if_pos hk, Bool.and_eq_true] at this
    simpa [hH] using this.2

/-- the tail goes in one order. -/
theorem relTailH {H : List Nat} {P : Program} {ops : Array Oper} {n sz : Nat} {Q : Exit → Act → World → Prop} (hQ : ∀ c a d v w, Q (.panic c) (a.put (some d) v) w → Q (.panic c) a w) (hok : RelOkH H ops n sz) : ∀ (l : List Oper) (m : Nat) (listed : Array Bool) (a : Act) (w : World), n ≤ m → m + l.length = ops.size → l = ops.toList.drop m →
    listed.size = ops.size → (∀ i, i < ops.size → (listed.getD i false = true ↔ i < m)) → wpList P ops Q l a w → wpAny P .any ops Q l.length listed a w := by
  intro l
  induction l with
  | nil =>
    intro m listed a w hm hs hl hsz hL h
    refine ⟨?_, h⟩
    unfold Region.ready
    rw [List.filter_eq_nil_iff]
    intro i hi
    have hi' : i < ops.size := by simpa using hi
    have := (hL i hi').2 (by simp at hs; omega)
    have e : listed.getD i true = true := by
      rw [Array.getD_eq_getD_getElem?, Array.getElem?_eq_getElem (by omega)] at this ⊢; simpa using this
    rw [e]; simp
  | cons o l ih =>
    intro m listed a w hm hs hl hsz hL h
    simp only [List.length_cons] at hs
    have hmlt : m < ops.size := by omega
    have ho : ops[m]? = some o := by
      have := congrArg (·[0]?) hl
      simpa using this.symm
    have hl' : l = ops.toList.drop (m + 1) := by
      have := congrArg List.tail hl
      simpa using this
    have hstep : ∀ a w, wpList P ops Q l a w → wpAny P .any ops Q l.length (listed.setIfInBounds m true) a w := fun a w h' =>
        ih (m + 1) (listed.setIfInBounds m true) a w (by omega) (by omega) hl' (by simpa using hsz) (fun j hj => by
          have h0 := hL j hj
          rw [Array.getD_eq_getD_getElem?] at h0 ⊢
          by_cases hji : j = m
          · subst hji
            rw [Array.getElem?_setIfInBounds_self_of_lt (by omega)]; simp
          · rw [Array.getElem?_setIfInBounds_ne (fun e => hji e.symm), h0]; omega) h'
    have hmready : m ∈ Region.ready .any ops listed := by
      unfold Region.ready
      simp only [List.mem_filter, List.mem_range, Bool.and_eq_true, Bool.not_eq_true']
      refine ⟨hmlt, ?_, ?_⟩
      · have : ¬ (listed.getD m false = true) := fun h' => by have := (hL m hmlt).1 h'; omega
        rw [Array.getD_eq_getD_getElem?, Array.getElem?_eq_getElem (by omega)] at this ⊢
        simpa using this
      · rw [ho]
        simp only [Option.map_some, Option.getD_some, Array.all_eq_true_iff_forall_mem, Bool.or_eq_true]
        intro e he
        cases hb : Region.binds .any e with
        | false => exact .inl rfl
        | true =>
          have h1 := hok.early m o ho e he hb
          exact .inr ((hL e.on (by omega)).2 h1)
    have hsolo := (hok.tail m o ho hm).2
    simp only [soloB, Bool.or_eq_true, Bool.and_eq_true, List.all_eq_true, List.mem_range, decide_eq_true_eq] at hsolo
    rcases hsolo.symm with ⟨hp, hap⟩ | hsolo
    · obtain ⟨v, hy, hgo⟩ := pure_yields hp h
      refine wpAny_first (i := m) (oi := o) (v := v) ho hok.nosel (fun c a' w' h' => ?_) l.length listed a w ?_ hmready hy (hstep _ _ hgo)
      · cases hd : o.dst with
        | none => rw [hd] at h'; exact h'
        | some d => rw [hd] at h'; exact hQ _ _ _ _ _ h'
      · intro j oj hoj hjm hlj he
        have hjs := (Array.getElem?_eq_some_iff.1 hoj).1
        rcases hap j hjs with hle | hh
        · exfalso
          have := (hL j hjs).2 (by omega)
          rw [Array.getD_eq_getD_getElem?, Array.getElem?_eq_getElem (by omega)] at this hlj
          simp at this hlj; rw [this] at hlj; cases hlj
        · rw [hoj] at hh
          simp only [Bool.or_eq_true] at hh
          rcases hh with hh | hh
          · obtain ⟨q, hq, he2⟩ := Array.any_eq_true.1 hh
            obtain ⟨e, he1, hee⟩ : ∃ e, e ∈ oj.after ∧ e = oj.after[q] := ⟨_, Array.getElem_mem hq, rfl⟩
            rw [← hee] at he2
            simp only [Bool.and_eq_true, beq_iff_eq] at he2
            exact absurd he2.1 (he e he1 he2.2)
          · exact hh
    have hready : ∀ i ∈ Region.ready .any ops listed, i = m := by
      intro i hi
      unfold Region.ready at hi
      simp only [List.mem_filter, List.mem_range, Bool.and_eq_true, Bool.not_eq_true'] at hi
      obtain ⟨hi1, hi2, hi3⟩ := hi
      obtain ⟨oi, hoi⟩ : ∃ oi, ops[i]? = some oi := ⟨_, Array.getElem?_eq_getElem hi1⟩
      rw [hoi] at hi3
      simp only [Option.map_some, Option.getD_some, Array.all_eq_true_iff_forall_mem, Bool.or_eq_true, Bool.not_eq_true'] at hi3
      have hnl : ¬ i < m := fun h' => by
        have := (hL i hi1).2 h'
        rw [Array.getD_eq_getD_getElem?, Array.getElem?_eq_getElem (by omega)] at this hi2
        simp at this hi2; rw [this] at hi2; cases hi2
      by_cases him : i = m
      · exact him
      · exfalso
        have hd := (hsolo i hi1).resolve_left (by omega)
        have := dep_closed (ops := ops) (S := fun k => k < m ∨ k = i) (fun k o' ho' hk e he hb => by
          rcases hk with hk | rfl
          · exact .inl (Nat.lt_trans (hok.early k o' ho' e he hb) hk)
          · rw [hoi] at ho'; cases ho'
            rcases hi3 e he with h' | h'
            · rw [hb] at h'; cases h'
            · exact .inl ((hL e.on (Nat.lt_trans (hok.early _ _ hoi e he hb) hi1)).1 h')) (.inr rfl) hd
        omega
    refine ⟨?_, ?_⟩
    · intro hr
      rw [hr] at hmready
      simp at hmready
    · intro i hi
      obtain rfl := hready i hi
      unfold wpOp
      rw [ho]
      simp only
      unfold wpList at h
      split
      · rename_i hw
        rw [if_pos hw] at h
        exact h.imp (Oper.wp_mono hstep) id
      · rename_i hw
        rw [if_neg hw] at h
        exact hstep _ _ h

theorem RelInvS.stepH {H : List Nat} {ops : Array Oper} {w0 : World} {a0 : Act} {Ts : List TT} {n : Nat} {listed : Array Bool} {a : Act} {w w' : World} (hok : RelOkH H ops n a0.tmps.size) (hk : ∀ T ∈ Ts, ttKeepsS T)
    (I : RelInvS ops w0 a0 Ts n listed a w) {i : Nat} {o : Oper} {T : TT} {v : Value} (ho : ops[i]? = some o) (hTi : Ts[i]? = some T) (hin : i < n) (hr : ∀ e ∈ o.after, Region.binds .any e = true → listed.getD e.on false = true)
    (hbw : StayS w0.heap.size w w') (hv : ttHolds T v w') : RelInvS ops w0 a0 Ts n (listed.setIfInBounds i true) (a.put o.dst v) w' := by
  obtain ⟨t, hd, ht, hu⟩ := hok.dst i o ho hin
  have his : i < listed.size := by rw [I.hsz]; exact (Array.getElem?_eq_some_iff.1 ho).1
  refine ⟨I.hb.trans hbw.below, by rw [hd]; exact I.hd, by rw [hd]; simpa [Act.put] using I.hs, by simpa using I.hsz, ?_, ?_, ?_, ?_⟩
  · intro k o' ho' hk' e he hbd
    simp only [getD_set _ _ _ his] at hk' ⊢
    by_cases hki : k = i
    · subst hki
      rw [ho] at ho'; cases ho'
      rw [hr e he hbd]; split <;> rfl
    · rw [if_neg hki] at hk'
      have := I.hcl k o' ho' hk' e he hbd
      split
      · rfl
      · exact this
  · intro j hj
    rw [getD_set _ _ _ his, if_neg (by omega)]
    exact I.hn j hj
  · intro j o' T' ho' hT' hl
    rw [getD_set _ _ _ his] at hl
    by_cases hji : j = i
    · subst hji
      rw [ho] at ho'; cases ho'
      rw [hTi] at hT'; cases hT'
      rw [hd, Array.getD_eq_getD_getElem?, Option.getD_some, put_get _ _ _ (by rw [I.hs]; exact ht)]
      exact hv
    · rw [if_neg hji] at hl
      have hne := hu j o' ho' hji
      have hjn : j < n := by
        rcases Nat.lt_or_ge j n with h | h
        · exact h
        · rw [I.hn j h] at hl; cases hl
      obtain ⟨t', hd', _, _⟩ := hok.dst j o' ho' hjn
      have h1 := I.hT j o' T' ho' hT' hl
      rw [hd', Option.getD_some, Array.getD_eq_getD_getElem?] at h1 ⊢
      rw [hd, put_get_ne _ _ _ _ (fun e => hne (by rw [hd', ← e]))]
      exact (hk T' (List.mem_of_getElem? hT')).on h1 hbw
  · intro t' ht'
    have hne : some t ≠ some t' := fun e => by
      have := ht' i o ho (by rw [getD_set _ _ _ his, if_pos rfl])
      exact this (by rw [hd, e])
    rw [hd, put_get_ne _ _ _ _ hne]
    exact I.h0 t' fun j o' ho' hl => ht' j o' ho' (by
      rw [getD_set _ _ _ his]
      split
      · rfl
      · exact hl)

theorem relFrontH {H : List Nat} {P : Program} {ops : Array Oper} {n : Nat} {Q : Exit → Act → World → Prop} {w0 : World} {a0 : Act} {Ts : List TT} (hQ : ∀ c a d v w, Q (.panic c) (a.put (some d) v) w → Q (.panic c) a w) (hok : RelOkH H ops n a0.tmps.size) (hl : Ts.length = n)
    (hw : relWalkS P ops w0 (fun a w => wpList P ops Q (ops.toList.drop n) a w) (ops.toList.take n) Ts a0 []) :
    ∀ (fuel : Nat) (listed : Array Bool) (a : Act) (w : World), RelInvS ops w0 a0 Ts n listed a w → unl listed ops.size = fuel → wpAny P .any ops Q fuel listed a w := by
  have hlen : (ops.toList.take n).length = Ts.length := by rw [hl]; have := hok.le; simp; omega
  have hk := relWalk_keepsS _ _ _ _ hlen hw
  have hTs : ∀ i, i < n → ∃ T, Ts[i]? = some T := fun i hi => ⟨_, List.getElem?_eq_getElem (by omega)⟩
  have hos : ∀ i (o : Oper), i < n → ((ops.toList.take n)[i]? = some o ↔ ops[i]? = some o) := fun i o hi => by simp [List.getElem?_take, hi]
  -- a frame in which each of the first k slots holds what was left in it
  have same : ∀ (k : Nat) (listed : Array Bool) (a : Act) (w : World), RelInvS ops w0 a0 Ts n listed a w → k ≤ n → ∀ t,
      (∀ (j : Nat) (o : Oper), j < k → ops[j]? = some o → o.dst = some t → listed.getD j false = true) → (∀ (j : Nat) (o : Oper), k ≤ j → ops[j]? = some o → o.dst = some t → listed.getD j false = false) →
      a.tmps[t]? = (lexA (ops.toList.take n) Ts (fun j => a.tmps.getD (((ops[j]?).bind (·.dst)).getD 0) undef) k a0).tmps[t]? := by
    intro k listed a w I hkn t h1 h2
    by_cases hex : ∃ (j : Nat) (o : Oper), j < k ∧ ops[j]? = some o ∧ o.dst = some t
    · obtain ⟨j, o, hj, ho, hd⟩ := hex
      obtain ⟨T, hT⟩ := hTs j (by omega)
      obtain ⟨t', hd', ht', hu⟩ := hok.dst j o ho (by omega)
      rw [hd] at hd'; cases hd'
      rw [lexA_get _ _ _ k a0 t j o T hj ((hos j o (by omega)).2 ho) hT hd ht' (fun i o' hi hik ho' => hu i o' ((hos i o' (by omega)).1 ho') (by omega))]
      have h3 := I.hT j o T ho hT (h1 j o hj ho hd)
      rw [hd, Option.getD_some] at h3
      have h4 : a.tmps[t]? = some (a.tmps.getD t undef) := by
        rw [Array.getD_eq_getD_getElem?, Array.getElem?_eq_getElem (by rw [I.hs]; exact ht')]; rfl
      rw [h4]
      simp only [ho, Option.bind_some, hd, Option.getD_some]
      cases T with
      | inl c => exact congrArg some h3
      | inr F => rfl
    · rw [lexA_ne _ _ _ k a0 t (fun j o hj ho hd => hex ⟨j, o, hj, (hos j o (by omega)).1 ho, hd⟩)]
      refine I.h0 t fun j o ho hlj hd => ?_
      rcases Nat.lt_or_ge j k with h | h
      · exact hex ⟨j, o, h, ho, hd⟩
      · rw [h2 j o h ho hd] at hlj; cases hlj
  have full : ∀ (fuel : Nat) (listed : Array Bool) (a : Act) (w : World), RelInvS ops w0 a0 Ts n listed a w → unl listed ops.size = fuel → (∀ i, i < n → listed.getD i false = true) → wpAny P .any ops Q fuel listed a w := by
    intro fuel listed a w I hf hall
    have hfu : (ops.toList.drop n).length = fuel := by
      rw [← hf]
      unfold unl
      rw [List.filter_congr (q := fun i => decide (n ≤ i)) (fun i hi => by
        by_cases h : n ≤ i
        · rw [I.hn i h]; simp [h]
        · rw [hall i (by omega)]; simp [h]), filter_ge]
      simp
    rw [← hfu]
    refine relTailH hQ hok (ops.toList.drop n) n listed a w (Nat.le_refl _) (by have := hok.le; simp; omega) rfl I.hsz (fun i hi => ?_) ?_
    · rcases Nat.lt_or_ge i n with h | h
      · exact ⟨fun _ => h, fun _ => hall i h⟩
      · rw [I.hn i h]; exact ⟨(fun h' => by cases h'), (fun h' => by omega)⟩
    · have he := relWalk_endS (ops.toList.take n) Ts a0 [] (fun j => a.tmps.getD (((ops[j]?).bind (·.dst)).getD 0) undef) hlen hw w I.hb (by simp) (fun j F hF => by
        have hj : j < n := by have := (List.getElem?_eq_some_iff.1 hF).1; omega
        obtain ⟨o, ho⟩ : ∃ o, ops[j]? = some o := ⟨_, Array.getElem?_eq_getElem (by have := hok.le; omega)⟩
        have h3 := I.hT j o _ ho hF (hall j hj)
        simp only [ho, Option.bind_some]
        exact h3)
      have hA : a = lexA (ops.toList.take n) Ts (fun j => a.tmps.getD (((ops[j]?).bind (·.dst)).getD 0) undef) (ops.toList.take n).length a0 := by
        rw [hlen, hl]
        have h1 : a.tmps = (lexA (ops.toList.take n) Ts (fun j => a.tmps.getD (((ops[j]?).bind (·.dst)).getD 0) undef) n a0).tmps := by
          apply Array.ext'
          apply List.ext_getElem?
          intro t
          rw [Array.getElem?_toList, Array.getElem?_toList]
          exact same n listed a w I (Nat.le_refl _) t (fun j o hj _ _ => hall j hj) (fun j o hj _ _ => I.hn j hj)
        have h2 := lexA_defers (ops.toList.take n) Ts (fun j => a.tmps.getD (((ops[j]?).bind (·.dst)).getD 0) undef) n a0
        cases a with
        | mk tm df =>
          cases hx : lexA (ops.toList.take n) Ts (fun j => (Act.mk tm df).tmps.getD (((ops[j]?).bind (·.dst)).getD 0) undef) n a0 with
          | mk tm' df' =>
            rw [hx] at h1 h2
            have h3 := I.hd
            simp only at h1 h2 h3
            rw [h1, h3, h2]
      rw [← hA] at he
      exact he
  intro fuel
  induction fuel with
  | zero =>
    intro listed a w I hf
    refine full 0 listed a w I hf fun i hi => ?_
    cases h : listed.getD i false with
    | true => rfl
    | false =>
      exfalso
      have : i ∈ (List.range ops.size).filter (fun i => !listed.getD i false) := by
        simp only [List.mem_filter, List.mem_range]
        exact ⟨by have := hok.le; omega, by rw [h]; rfl⟩
      unfold unl at hf
      rw [List.length_eq_zero_iff.1 hf] at this
      simp at this
  | succ fuel ih =>
    intro listed a w I hf
    by_cases hall : ∀ i, i < n → listed.getD i false = true
    · exact full (fuel + 1) listed a w I hf hall
    · have hex : ∃ k, k < n ∧ listed.getD k false = false ∧ ∀ j, j < k → listed.getD j false = true := by
        have : ∃ k, k < n ∧ listed.getD k false = false := by
          apply Classical.byContradiction
          intro hne
          apply hall
          intro i hi
          cases h : listed.getD i false with
          | true => rfl
          | false => exact absurd ⟨i, hi, h⟩ hne
        obtain ⟨k, hk1, hk2⟩ := this
        induction k using Nat.strongRecOn with
        | ind k ihk =>
          by_cases hj : ∀ j, j < k → listed.getD j false = true
          · exact ⟨k, hk1, hk2, hj⟩
          · obtain ⟨j, hj1, hj2⟩ : ∃ j, j < k ∧ listed.getD j false = false := by
              apply Classical.byContradiction
              intro hne
              apply hj
              intro j hjk
              cases h : listed.getD j false with
              | true => rfl
              | false => exact absurd ⟨j, hjk, h⟩ hne
            exact ihk j hj1 (by omega) hj2
      obtain ⟨k, hkn, hkl, hkm⟩ := hex
      have rdy : ∀ i, i ∈ Region.ready .any ops listed ↔ i < ops.size ∧ listed.getD i false = false ∧ ∀ (o : Oper), ops[i]? = some o → ∀ e ∈ o.after, Region.binds .any e = true → listed.getD e.on false = true := by
        intro i
        unfold Region.ready
        simp only [List.mem_filter, List.mem_range, Bool.and_eq_true, Bool.not_eq_true']
        constructor
        · rintro ⟨h1, h2, h3⟩
          refine ⟨h1, ?_, fun o ho e he hb => ?_⟩
          · rw [Array.getD_eq_getD_getElem?, Array.getElem?_eq_getElem (by rw [I.hsz]; exact h1)] at h2 ⊢; exact h2
          · rw [ho] at h3
            simp only [Option.map_some, Option.getD_some, Array.all_eq_true_iff_forall_mem, Bool.or_eq_true, Bool.not_eq_true'] at h3
            rcases h3 e he with h | h
            · rw [hb] at h; cases h
            · exact h
        · rintro ⟨h1, h2, h3⟩
          refine ⟨h1, ?_, ?_⟩
          · rw [Array.getD_eq_getD_getElem?, Array.getElem?_eq_getElem (by rw [I.hsz]; exact h1)] at h2 ⊢; exact h2
          · rw [Array.getElem?_eq_getElem h1]
            simp only [Option.map_some, Option.getD_some, Array.all_eq_true_iff_forall_mem, Bool.or_eq_true, Bool.not_eq_true']
            intro e he
            cases hb : Region.binds .any e with
            | false => exact .inl rfl
            | true => exact .inr (h3 _ (Array.getElem?_eq_getElem h1) e he hb)
      by_cases hkH : k ∈ H
      · obtain ⟨o, ho⟩ : ∃ o, ops[k]? = some o := ⟨_, Array.getElem?_eq_getElem (by have := hok.le; omega)⟩
        have hho := hok.hoist k o ho hkH hkn
        simp only [hoistB, Bool.and_eq_true, List.all_eq_true, List.mem_range, Bool.or_eq_true, beq_iff_eq] at hho
        obtain ⟨⟨hg, hmv⟩, hap⟩ := hho
        obtain ⟨x, hx⟩ : ∃ x, o.op = .move x := by
          cases hop : o.op with
          | move x => exact ⟨x, rfl⟩
          | _ => rw [hop] at hmv; cases hmv
        have hgn : o.guard = none := by simpa using hg
        obtain ⟨d, hd, _, _⟩ := hok.dst k o ho hkn
        have hwant : ∀ y, Region.wanted o y = true := fun y => by unfold Region.wanted; rw [hgn]
        have hrunv : ∀ (ev : Operand → Value) W, (execOp ev o).run P W = .ok (.value (ev x)) W := fun ev W => by unfold execOp; rw [hx]; rfl
        obtain ⟨T, hT⟩ := hTs k hkn
        have hdep : ∀ j, depB (rmasks ops.toList []) k j = true → j ≠ k → listed.getD j false = true := by
          intro j hdj hjk
          have := dep_closed (ops := ops) (S := fun q => listed.getD q false = true ∨ q = k) (fun q o' ho' hq e he hb => by
            rcases hq with hq | rfl
            · exact .inl (I.hcl q o' ho' hq e he hb)
            · exact .inl (hkm _ (hok.early _ o' ho' e he hb))) (.inr rfl) hdj
          exact this.resolve_right hjk
        have hup : ∀ j, k < j → depB (rmasks ops.toList []) j k = true → listed.getD j false = false := by
          intro j hij hd
          cases h : listed.getD j false with
          | false => rfl
          | true => have h' : listed.getD k false = true := dep_closed I.hcl h hd; rw [hkl] at h'; cases h'
        have hsame : ∀ t ∈ o.looksAt ops, a.tmps[t]? = (lexA (ops.toList.take n) Ts (fun j => a.tmps.getD (((ops[j]?).bind (·.dst)).getD 0) undef) k a0).tmps[t]? := by
          intro t ht
          refine same k listed a w I (by omega) t (fun j o' hj ho' hd => hkm j hj) (fun j o' hj ho' hd => ?_)
          by_cases hji : j = k
          · rw [hji]; exact hkl
          · exact hup j (by omega) ((hok.looks k o ho hkn t ht j o' ho' hd).2 (by omega))
        have hop := relWalk_atS (ops.toList.take n) Ts a0 [] (fun j => a.tmps.getD (((ops[j]?).bind (·.dst)).getD 0) undef) k o T hw ((hos k o hkn).2 ho) hT w I.hb (fun p hp => by simp at hp) (fun j o' F hj ho' hF hd => by
          have ho'' := (hos j o' (by omega)).1 ho'
          obtain ⟨t', hd', _, _⟩ := hok.dst j o' ho'' (by omega)
          have h3 := I.hT j o' _ ho'' hF (hkm j hj)
          simp only [ho'', Option.bind_some]
          exact h3)
        unfold relOpS at hop
        rw [← wanted_congr hsame, ← eval_congr (ops := ops) (hok.nosel k o · · ho) hsame, if_pos (hwant _), hrunv] at hop
        have hunl : unl (listed.setIfInBounds k true) ops.size = fuel := by
          have h1 := filter_one (fun j => !listed.getD j false) (fun j => !(listed.setIfInBounds k true).getD j false) k (by simp [hkl]) (by rw [getD_set _ _ _ (by rw [I.hsz]; have := hok.le; omega), if_pos rfl]; rfl) (fun j hj => by rw [getD_set _ _ _ (by rw [I.hsz]; have := hok.le; omega), if_neg hj]) ops.size (by have := hok.le; omega)
          unfold unl at hf ⊢
          omega
        refine wpAny_first (i := k) (oi := o) (v := a.eval x) ho (hok.nosel) ?_ fuel listed a w ?_ ?_ ?_ ?_
        · intro c a' w' h'
          rw [hd] at h'
          exact hQ _ _ _ _ _ h'
        · intro j oj hoj hjk _ he
          rcases hap j (Array.getElem?_eq_some_iff.1 hoj).1 with h | h
          · exact absurd h hjk
          · rw [hoj] at h
            simp only [Bool.or_eq_true] at h
            rcases h with h | h
            · obtain ⟨i, hi, he2⟩ := Array.any_eq_true.1 h
              obtain ⟨e, he1, hee⟩ : ∃ e, e ∈ oj.after ∧ e = oj.after[i] := ⟨_, Array.getElem_mem hi, rfl⟩
              rw [← hee] at he2
              simp only [Bool.and_eq_true, beq_iff_eq] at he2
              exact absurd he2.1 (he e he1 he2.2)
            · exact h
        · exact (rdy k).2 ⟨by have := hok.le; omega, hkl, fun o' ho' e he hb => hkm _ (hok.early k o' ho' e he hb)⟩
        · exact .inl ⟨hwant _, fun W => hrunv _ W⟩
        · exact ih _ _ _ (I.stepH hok hk ho hT hkn (fun e he hb => hkm _ (hok.early k o ho e he hb)) hop.1 hop.2) hunl
      refine ⟨fun hr => ?_, fun i hi => ?_⟩
      · exfalso
        have : k ∈ Region.ready .any ops listed := (rdy k).2 ⟨by have := hok.le; omega, hkl, fun o ho e he hb => hkm _ (hok.early k o ho e he hb)⟩
        rw [hr] at this
        simp at this
      · obtain ⟨hi1, hi2, hi3⟩ := (rdy i).1 hi
        obtain ⟨o, ho⟩ : ∃ o, ops[i]? = some o := ⟨_, Array.getElem?_eq_getElem hi1⟩
        have hdep : ∀ j, depB (rmasks ops.toList []) i j = true → j ≠ i → listed.getD j false = true := by
          intro j hd hji
          have := dep_closed (ops := ops) (S := fun k => listed.getD k false = true ∨ k = i) (fun k o' ho' hk' e he hb => by
            rcases hk' with hk' | rfl
            · exact .inl (I.hcl k o' ho' hk' e he hb)
            · exact .inl (hi3 o' ho' e he hb)) (.inr rfl) hd
          exact this.resolve_right hji
        have hin : i < n := by
          rcases Nat.lt_or_ge i n with h | h
          · exact h
          · have := hdep k (((hok.tail i o ho h).1.2 k (by omega)).resolve_left hkH) (by omega)
            rw [hkl] at this; cases this
        obtain ⟨T, hT⟩ := hTs i hin
        have hup : ∀ j, i < j → depB (rmasks ops.toList []) j i = true → listed.getD j false = false := by
          intro j hij hd
          cases h : listed.getD j false with
          | false => rfl
          | true => have h' : listed.getD i false = true := dep_closed I.hcl h hd; rw [hi2] at h'; cases h'
        have hsame : ∀ t ∈ o.looksAt ops, a.tmps[t]? = (lexA (ops.toList.take n) Ts (fun j => a.tmps.getD (((ops[j]?).bind (·.dst)).getD 0) undef) i a0).tmps[t]? := by
          intro t ht
          refine same i listed a w I (by omega) t (fun j o' hj ho' hd => ?_) (fun j o' hj ho' hd => ?_)
          · exact hdep j ((hok.looks i o ho hin t ht j o' ho' hd).1 hj) (by omega)
          · by_cases hji : j = i
            · rw [hji]; exact hi2
            · exact hup j (by omega) ((hok.looks i o ho hin t ht j o' ho' hd).2 (by omega))
        have hop := relWalk_atS (ops.toList.take n) Ts a0 [] (fun j => a.tmps.getD (((ops[j]?).bind (·.dst)).getD 0) undef) i o T hw ((hos i o hin).2 ho) hT w I.hb (fun p hp => by simp at hp) (fun j o' F hj ho' hF hd => by
          have ho'' := (hos j o' (by omega)).1 ho'
          obtain ⟨t', hd', _, _⟩ := hok.dst j o' ho'' (by omega)
          rw [hd', Option.getD_some] at hd
          have h3 := I.hT j o' _ ho'' hF (hdep j ((hok.looks i o ho hin t' hd j o' ho'' hd').1 hj) (by omega))
          simp only [ho'', Option.bind_some]
          exact h3)
        have hunl : unl (listed.setIfInBounds i true) ops.size = fuel := by
          have h1 := filter_one (fun j => !listed.getD j false) (fun j => !(listed.setIfInBounds i true).getD j false) i (by simp [hi2]) (by rw [getD_set _ _ _ (by rw [I.hsz]; exact hi1), if_pos rfl]; rfl) (fun j hj => by rw [getD_set _ _ _ (by rw [I.hsz]; exact hi1), if_neg hj]) ops.size hi1
          unfold unl at hf ⊢
          omega
        have hgo : ∀ v w', StayS w0.heap.size w w' → ttHolds T v w' → wpAny P .any ops Q fuel (listed.setIfInBounds i true) (a.put o.dst v) w' := fun v w' h1 h2 =>
          ih _ _ _ (I.stepH hok hk ho hT hin (hi3 o ho) h1 h2) hunl
        unfold relOpS at hop
        rw [← wanted_congr hsame, ← eval_congr (ops := ops) (hok.nosel i o · · ho) hsame] at hop
        unfold wpOp
        rw [ho]
        simp only
        split
        · rename_i hwa
          rw [if_pos hwa] at hop
          refine .inl ?_
          unfold Oper.wp
          cases hrun : (execOp a.eval o).run P w with
          | halt h w' => rw [hrun] at hop; simp [relUponS] at hop
          | ok x w' =>
            rw [hrun] at hop
            cases x with
            | value v => exact hgo v w' hop.1 hop.2
            | enter f args =>
              obtain ⟨rfl, hc⟩ := hop
              refine hc.mono ?_
              rintro e w'' ⟨v, rfl, h1, h2⟩
              exact hgo v w'' h1 h2
            | _ => simp [relUponS] at hop
        · rename_i hwa
          rw [if_neg hwa] at hop
          exact hgo undef w (StayS.refl _ _) hop

/-- ONE WALK IN THE TEXT's ORDER SERVES EVERY ORDER. -/
theorem wp_region_relH {H : List Nat} {P : Program} {id : Nat} {Q : Exit → Act → World → Prop} {a : Act} {w : World} {l : List Oper} (n : Nat) (Ts : List TT) (hm : P.follows .mixedOrders = true) (hB : relOkHB H l.toArray n a.tmps.size = true) (hQ : ∀ c a d v w, Q (.panic c) (a.put (some d) v) w → Q (.panic c) a w) (hl : Ts.length = n)
    (h : relWalkS P l.toArray w (fun a' w' => wpList P l.toArray Q (l.drop n) a' w') (l.take n) Ts a []) : (Code.region id l.toArray true).wp P Q a w := by
  have hok := relOkH_of hB
  refine wp_region_any hm (relFrontH (w0 := w) (a0 := a) hQ hok hl h _ _ a w.drew ⟨(Below.refl _ _).drew, rfl, rfl, by simp, ?_, ?_, ?_, ?_⟩ ?_)
  · intro k o ho hk
    exfalso
    simp only [Array.getD_eq_getD_getElem?] at hk
    by_cases h : k < l.length <;> simp [h] at hk
  · intro i hi; simp [Array.getD_eq_getD_getElem?]
    by_cases h : i < l.length <;> simp [h]
  · intro i o T ho hT hk
    exfalso
    rw [Array.getD_eq_getD_getElem?] at hk
    by_cases h : i < l.length <;> simp [h] at hk
  · intro t _; rfl
  · unfold unl
    rw [List.filter_congr (q := fun _ => true) (fun i hi => by
      rw [Array.getD_eq_getD_getElem?]
      by_cases h : i < l.length <;> simp [h]), List.filter_eq_self.2 (fun _ _ => rfl)]
    simp


end Go.Proofs.Ytjbpgjfnccmdaaa
end

section
set_option linter.unusedSimpArgs false
set_option linter.unusedVariables false
namespace Go.Proofs.Ytjbpgjfnccmdaaa
open Go.RowKit

/-- a slice of slices that reads as ls. -/
def Ls (w : World) (B : Nat) (A : Option Addr) (ls : List (List UInt8)) : Prop :=
  ∀ i, i < ls.length → ∃ b off, A = some ⟨b, off, none⟩ ∧ b < B ∧ ∃ Ai ci, w.cell? ⟨b, off + i, none⟩ = some (.slice Ai (ls.getD i []).length ci) ∧ Bs w B Ai (ls.getD i []) ∧ (Ai = none → ls.getD i [] = [])
theorem Ls.keep {w w' : World} {B : Nat} {A : Option Addr} {ls : List (List UInt8)} (h : Ls w B A ls) (hk : ∀ b o, b < B → w'.cell? ⟨b, o, none⟩ = w.cell? ⟨b, o, none⟩) : Ls w' B A ls := fun i hi => by
  obtain ⟨b, off, e, hb, Ai, ci, hc, h1, h2⟩ := h i hi
  exact ⟨b, off, e, hb, Ai, ci, (hk b _ hb).trans hc, h1.keep hk, h2⟩
theorem Ls.below {w w' : World} {B : Nat} {A : Option Addr} {ls : List (List UInt8)} (h : Ls w B A ls) (hb : Below B w w') : Ls w' B A ls := h.keep fun b o hbB => hb.cell (p := ⟨b, o, none⟩) hbB
theorem Ls.more {w : World} {B B' : Nat} {A : Option Addr} {ls : List (List UInt8)} (h : Ls w B A ls) (hB : B ≤ B') : Ls w B' A ls := fun i hi => by
  obtain ⟨b, off, e, hb, Ai, ci, hc, h1, h2⟩ := h i hi
  exact ⟨b, off, e, by omega, Ai, ci, hc, h1.more hB, h2⟩
end Go.Proofs.Ytjbpgjfnccmdaaa
end
