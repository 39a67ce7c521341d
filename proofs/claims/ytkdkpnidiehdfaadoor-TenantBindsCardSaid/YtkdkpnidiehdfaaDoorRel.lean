/-
  A DRAWN REGION WHOSE OPERATIONS READ, CALL AND MAKE MEMORY, BUT WRITE NOTHING THAT IS THERE; and a forced tail behind them. One walk in the text's order serves every order: each operation leaves one value ('.inl c'), or whatever fits ('.inr F', kept when memory is made). Over any program.
-/
import Derived.Test.YtkdkpnidiehdfaaDoorApp
import Derived.Orders
set_option linter.unusedSimpArgs false
set_option linter.unusedVariables false
namespace Go.Proofs.YtkdkpnidiehdfaaDoor
open Go.RowKit

/-! ### what waits for what -/
def rmask (o : Oper) (acc : List Nat) : Nat := o.after.toList.foldl (fun s e => if Region.binds .any e then s ||| 2 ^ e.on ||| acc.getD e.on 0 else s) 0
def rmasks : List Oper → List Nat → List Nat
  | [], acc => acc
  | o :: os, acc => rmasks os (acc ++ [rmask o acc])
theorem rmask_spec {S : Nat → Prop} {acc : List Nat} (hacc : ∀ i, S i → ∀ j, (acc.getD i 0).testBit j = true → S j) : ∀ (es : List Edge) (s : Nat), (∀ j, s.testBit j = true → S j) → (∀ e ∈ es, Region.binds .any e = true → S e.on) →
    ∀ j, (es.foldl (fun s e => if Region.binds .any e then s ||| 2 ^ e.on ||| acc.getD e.on 0 else s) s).testBit j = true → S j
  | [], s, hs, _ => hs
  | e :: es, s, hs, he => by
    refine rmask_spec hacc es _ ?_ (fun e' h => he e' (List.mem_cons_of_mem _ h))
    intro j hj
    by_cases hb : Region.binds .any e = true
    · dsimp only at hj
      rw [if_pos hb] at hj
      simp only [Nat.testBit_or, Bool.or_eq_true] at hj
      have hS := he e (by simp) hb
      rcases hj with (hj | hj) | hj
      · exact hs j hj
      · rw [Nat.testBit_two_pow] at hj
        have : e.on = j := by simpa using hj
        exact this ▸ hS
      · exact hacc _ hS j hj
    · dsimp only at hj
      rw [if_neg hb] at hj
      exact hs j hj
theorem rmasks_spec {S : Nat → Prop} : ∀ (os : List Oper) (acc : List Nat) (ops : List Oper), ops = ops.take acc.length ++ os → acc.length ≤ ops.length →
    (∀ k o, ops[k]? = some o → S k → ∀ e ∈ o.after, Region.binds .any e = true → S e.on) → (∀ i, S i → ∀ j, (acc.getD i 0).testBit j = true → S j) →
    ∀ i, S i → ∀ j, ((rmasks os acc).getD i 0).testBit j = true → S j
  | [], acc, ops, _, _, _, hacc => hacc
  | o :: os, acc, ops, he, hl, hcl, hacc => by
    have hk : ops[acc.length]? = some o := by
      rw [he, List.getElem?_append_right (by simp; exact Nat.min_le_left _ _)]
      simp [Nat.min_eq_left hl]
    have hlt : acc.length < ops.length := (List.getElem?_eq_some_iff.1 hk).1
    refine rmasks_spec os (acc ++ [rmask o acc]) ops ?_ (by simp; omega) hcl ?_
    · simp only [List.length_append, List.length_cons, List.length_nil, Nat.zero_add]
      rw [List.take_succ_eq_append_getElem hlt, List.append_assoc]
      have : ops[acc.length] = o := by
        rw [List.getElem?_eq_getElem hlt] at hk; exact Option.some.inj hk
      rw [this]; exact he
    · intro i hi j hj
      rcases Nat.lt_trichotomy i acc.length with h | h | h
      · rw [List.getD_eq_getElem?_getD, List.getElem?_append_left h, ← List.getD_eq_getElem?_getD] at hj
        exact hacc i hi j hj
      · subst h
        rw [List.getD_eq_getElem?_getD, List.getElem?_append_right (Nat.le_refl _)] at hj
        simp only [Nat.sub_self, List.getElem?_cons_zero, Option.getD_some] at hj
        exact rmask_spec hacc _ 0 (fun j h => by simp at h) (fun e h hb => hcl _ o hk hi e (by simpa using h) hb) j hj
      · rw [List.getD_eq_getElem?_getD, List.getElem?_eq_none (by simp; omega)] at hj
        simp at hj

/-! ### the walk -/
abbrev TT := Value ⊕ (Value → World → Prop)
def ttHolds (T : TT) (v : Value) (w : World) : Prop := match T with
  | .inl c => v = c
  | .inr F => F v w
def ttVal (T : TT) (v : Value) : Value := match T with
  | .inl c => c
  | .inr _ => v
/-- a block is as it was, but for its marks. -/
def SameBlk (o o' : Option Obj) : Prop := o' = o ∨ ∃ cs T fr fr', o = some (.cells cs T fr) ∧ o' = some (.cells cs T fr')
/-- below block number B all is as it was; and every block that was there holds what it held (one that was made meanwhile may have been marked). -/
structure Stay (B : Nat) (w w' : World) : Prop where
  below : Below B w w'
  blk : ∀ b, b < w.heap.size → SameBlk w.heap[b]? w'.heap[b]?
theorem Stay.refl (B : Nat) (w : World) : Stay B w w := ⟨Below.refl _ _, fun _ _ => .inl rfl⟩
theorem Stay.of {B : Nat} {w w' : World} (h : Below w.heap.size w w') (hB : B ≤ w.heap.size) : Stay B w w' := ⟨h.mono hB, fun b hb => .inl (h.block b hb)⟩
theorem Stay.cell {B : Nat} {w w' : World} (h : Stay B w w') (b o : Nat) (hb : b < w.heap.size) : w'.cell? ⟨b, o, none⟩ = w.cell? ⟨b, o, none⟩ := by
  rcases h.blk b hb with e | ⟨cs, T, fr, fr', e1, e2⟩
  · exact World.cell?_of_block (w := w) (w' := w') (a := ⟨b, o, none⟩) e
  · obtain ⟨x, y⟩ := fr
    obtain ⟨x', y'⟩ := fr'
    rw [cell_of_row w b o cs T (x, y) e1, cell_of_row w' b o cs T (x', y') e2]
def Keeps (F : Value → World → Prop) : Prop := ∀ v w w', F v w → Stay 0 w w' → F v w'
def ttKeeps (T : TT) : Prop := match T with
  | .inl _ => True
  | .inr F => Keeps F
theorem ttKeeps.on {T : TT} (h : ttKeeps T) {v : Value} {B : Nat} {w w' : World} (hv : ttHolds T v w) (hb : Stay B w w') : ttHolds T v w' := by
  cases T with
  | inl c => exact hv
  | inr F => exact h v w w' hv ⟨hb.below.mono (Nat.zero_le _), hb.blk⟩
def relUpon (P : Program) (B : Nat) (T : TT) (w : World) : Result Next → Prop
  | .ok (.value v) w' => Stay B w w' ∧ ttHolds T v w'
  | .ok (.enter f args) w' => w' = w ∧ Calls P f args w (fun e w'' => ∃ v, e = .returned v ∧ Stay B w w'' ∧ ttHolds T v w'')
  | _ => False
def relOp (P : Program) (B : Nat) (ops : Array Oper) (o : Oper) (a : Act) (T : TT) (w : World) : Prop :=
  if Region.wanted o (yielded ops a.tmps) then relUpon P B T w ((execOp a.eval o).run P w) else ttHolds T undef w
def factsOn (Φ : List (Tmp × (World → Prop))) (ts : List Tmp) (w : World) : Prop := ∀ p ∈ Φ, p.1 ∈ ts → p.2 w
def relWalk (P : Program) (ops : Array Oper) (w0 : World) (fin : Act → World → Prop) : List Oper → List TT → Act → List (Tmp × (World → Prop)) → Prop
  | o :: os, T :: Ts, a, Φ => (∀ w, Below w0.heap.size w0 w → factsOn Φ (o.looksAt ops) w → relOp P w0.heap.size ops o a T w) ∧
      (match T with
       | .inl c => relWalk P ops w0 fin os Ts (a.put o.dst c) Φ
       | .inr F => Keeps F ∧ ∀ v, relWalk P ops w0 fin os Ts (a.put o.dst v) (Φ ++ [(o.dst.getD 0, F v)]))
  | _, _, a, Φ => ∀ w, Below w0.heap.size w0 w → (∀ p ∈ Φ, p.2 w) → fin a w

def lexA : List Oper → List TT → (Nat → Value) → Nat → Act → Act
  | o :: os, T :: Ts, vs, k + 1, a => lexA os Ts (fun j => vs (j + 1)) k (a.put o.dst (ttVal T (vs 0)))
  | _, _, _, _, a => a
theorem lexA_defers : ∀ (os : List Oper) (Ts : List TT) (vs : Nat → Value) (k : Nat) (a : Act), (lexA os Ts vs k a).defers = a.defers
  | [], _, _, _, _ => by simp [lexA]
  | _ :: _, [], _, _, _ => by simp [lexA]
  | _ :: _, _ :: _, _, 0, _ => by simp [lexA]
  | o :: os, T :: Ts, vs, k + 1, a => by
    simp only [lexA]; rw [lexA_defers os Ts _ k]; cases h : o.dst <;> rfl
theorem lexA_size : ∀ (os : List Oper) (Ts : List TT) (vs : Nat → Value) (k : Nat) (a : Act), (lexA os Ts vs k a).tmps.size = a.tmps.size
  | [], _, _, _, _ => by simp [lexA]
  | _ :: _, [], _, _, _ => by simp [lexA]
  | _ :: _, _ :: _, _, 0, _ => by simp [lexA]
  | o :: os, T :: Ts, vs, k + 1, a => by
    simp only [lexA]; rw [lexA_size os Ts _ k]; cases h : o.dst <;> simp [Act.put]
theorem put_get_ne (a : Act) (d : Option Tmp) (v : Value) (t : Nat) (h : d ≠ some t) : (a.put d v).tmps[t]? = a.tmps[t]? := by
  cases d with
  | none => rfl
  | some d => simp only [Act.put]; rw [Array.getElem?_setIfInBounds_ne (fun e => h (by rw [e]))]
theorem put_get (a : Act) (t : Tmp) (v : Value) (h : t < a.tmps.size) : (a.put (some t) v).tmps[t]? = some v := by
  simp [Act.put, h]
theorem lexA_ne : ∀ (os : List Oper) (Ts : List TT) (vs : Nat → Value) (k : Nat) (a : Act) (t : Nat), (∀ j o, j < k → os[j]? = some o → o.dst ≠ some t) → (lexA os Ts vs k a).tmps[t]? = a.tmps[t]?
  | [], _, _, _, _, _, _ => by simp [lexA]
  | _ :: _, [], _, _, _, _, _ => by simp [lexA]
  | _ :: _, _ :: _, _, 0, _, _, _ => by simp [lexA]
  | o :: os, T :: Ts, vs, k + 1, a, t, h => by
    simp only [lexA]
    rw [lexA_ne os Ts _ k _ t (fun j o' hj ho => h (j + 1) o' (by omega) (by simpa using ho)), put_get_ne _ _ _ _ (h 0 o (by omega) rfl)]
theorem lexA_get : ∀ (os : List Oper) (Ts : List TT) (vs : Nat → Value) (k : Nat) (a : Act) (t j : Nat) (o : Oper) (T : TT), j < k → os[j]? = some o → Ts[j]? = some T → o.dst = some t → t < a.tmps.size →
    (∀ i o', j < i → i < k → os[i]? = some o' → o'.dst ≠ some t) → (lexA os Ts vs k a).tmps[t]? = some (ttVal T (vs j))
  | [], _, _, _, _, _, j, _, _, _, h, _, _, _, _ => by simp at h
  | _ :: _, [], _, _, _, _, j, _, _, _, _, h, _, _, _ => by simp at h
  | _ :: _, _ :: _, _, 0, _, _, _, _, _, h, _, _, _, _, _ => by omega
  | o :: os, T :: Ts, vs, k + 1, a, t, 0, o', T', hj, ho, hT, hd, ht, hu => by
    simp only [List.getElem?_cons_zero, Option.some.injEq] at ho hT
    subst ho hT
    simp only [lexA]
    rw [lexA_ne os Ts _ k _ t (fun i o' hi ho => hu (i + 1) o' (by omega) (by omega) (by simpa using ho)), hd, put_get _ _ _ ht]
  | o :: os, T :: Ts, vs, k + 1, a, t, j + 1, o', T', hj, ho, hT, hd, ht, hu => by
    simp only [lexA]
    exact lexA_get os Ts (fun j => vs (j + 1)) k _ t j o' T' (by omega) (by simpa using ho) (by simpa using hT) hd (by cases h : o.dst <;> simp [Act.put] <;> exact ht)
      (fun i o'' h1 h2 ho' => hu (i + 1) o'' (by omega) (by omega) (by simpa using ho'))

section
variable {P : Program} {ops : Array Oper} {w0 : World} {fin : Act → World → Prop}
theorem relWalk_at : ∀ (os : List Oper) (Ts : List TT) (a : Act) (Φ : List (Tmp × (World → Prop))) (vs : Nat → Value) (k : Nat) (o : Oper) (T : TT), relWalk P ops w0 fin os Ts a Φ → os[k]? = some o → Ts[k]? = some T →
    ∀ w, Below w0.heap.size w0 w → factsOn Φ (o.looksAt ops) w → (∀ j o' F, j < k → os[j]? = some o' → Ts[j]? = some (Sum.inr F : TT) → o'.dst.getD 0 ∈ o.looksAt ops → F (vs j) w) → relOp P w0.heap.size ops o (lexA os Ts vs k a) T w
  | [], _, _, _, _, _, _, _, _, h, _ => by simp at h
  | _ :: _, [], _, _, _, _, _, _, _, _, h => by simp at h
  | o :: os, T :: Ts, a, Φ, vs, 0, o', T', h, ho, hT => by
    simp only [List.getElem?_cons_zero, Option.some.injEq] at ho hT
    subst ho hT
    intro w hb hf _
    simp only [lexA]
    exact h.1 w hb hf
  | o :: os, T :: Ts, a, Φ, vs, k + 1, o', T', h, ho, hT => by
    intro w hb hf hF
    simp only [lexA]
    cases T with
    | inl c => exact relWalk_at os Ts _ Φ (fun j => vs (j + 1)) k o' T' h.2 (by simpa using ho) (by simpa using hT) w hb hf (fun j o'' F hj h1 h2 h3 => hF (j + 1) o'' F (by omega) (by simpa using h1) (by simpa using h2) h3)
    | inr F0 =>
      refine relWalk_at os Ts _ _ (fun j => vs (j + 1)) k o' T' (h.2.2 (vs 0)) (by simpa using ho) (by simpa using hT) w hb ?_ (fun j o'' F hj h1 h2 h3 => hF (j + 1) o'' F (by omega) (by simpa using h1) (by simpa using h2) h3)
      intro p hp ht
      rcases List.mem_append.1 hp with hp | hp
      · exact hf p hp ht
      · simp only [List.mem_singleton] at hp
        subst hp
        exact hF 0 o F0 (by omega) rfl rfl ht
theorem relWalk_end : ∀ (os : List Oper) (Ts : List TT) (a : Act) (Φ : List (Tmp × (World → Prop))) (vs : Nat → Value), os.length = Ts.length → relWalk P ops w0 fin os Ts a Φ →
    ∀ w, Below w0.heap.size w0 w → (∀ p ∈ Φ, p.2 w) → (∀ j F, Ts[j]? = some (Sum.inr F : TT) → F (vs j) w) → fin (lexA os Ts vs os.length a) w
  | [], [], a, Φ, vs, _, h => fun w hb hf _ => by simpa [lexA] using h w hb hf
  | [], _ :: _, _, _, _, h, _ => by simp at h
  | _ :: _, [], _, _, _, h, _ => by simp at h
  | o :: os, T :: Ts, a, Φ, vs, hl, h => by
    intro w hb hf hF
    simp only [List.length_cons, lexA]
    cases T with
    | inl c => exact relWalk_end os Ts _ Φ (fun j => vs (j + 1)) (by simpa using hl) h.2 w hb hf (fun j F hj => hF (j + 1) F (by simpa using hj))
    | inr F0 =>
      refine relWalk_end os Ts _ _ (fun j => vs (j + 1)) (by simpa using hl) (h.2.2 (vs 0)) w hb ?_ (fun j F hj => hF (j + 1) F (by simpa using hj))
      intro p hp
      rcases List.mem_append.1 hp with hp | hp
      · exact hf p hp
      · simp only [List.mem_singleton] at hp
        subst hp
        exact hF 0 F0 rfl
theorem relWalk_keeps : ∀ (os : List Oper) (Ts : List TT) (a : Act) (Φ : List (Tmp × (World → Prop))), os.length = Ts.length → relWalk P ops w0 fin os Ts a Φ → ∀ T ∈ Ts, ttKeeps T
  | [], [], _, _, _, _ => fun T h => by simp at h
  | [], _ :: _, _, _, h, _ => by simp at h
  | _ :: _, [], _, _, h, _ => by simp at h
  | o :: os, T :: Ts, a, Φ, hl, h => by
    intro T' hT'
    cases T with
    | inl c =>
      rcases List.mem_cons.1 hT' with rfl | hT'
      · trivial
      · exact relWalk_keeps os Ts _ Φ (by simpa using hl) h.2 T' hT'
    | inr F =>
      rcases List.mem_cons.1 hT' with rfl | hT'
      · exact h.2.1
      · exact relWalk_keeps os Ts _ _ (by simpa using hl) (h.2.2 undef) T' hT'
end
end Go.Proofs.YtkdkpnidiehdfaaDoor
