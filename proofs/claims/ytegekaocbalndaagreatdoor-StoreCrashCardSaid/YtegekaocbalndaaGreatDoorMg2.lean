/- several texts in one: A DRAWN REGION WHOSE OPERATIONS READ, CALL AND MAKE MEMORY, BUT WRITE NOTHING THAT IS THER, Relb, Relc -/
import Derived.Test.YtegekaocbalndaaGreatDoorMg1
import Derived.Orders
section
set_option linter.unusedSimpArgs false
set_option linter.unusedVariables false
namespace Go.Proofs.YtegekaocbalndaaGreatDoor
open Go.RowKit

/-! ### what waits for what -/
def rmask (o : Oper) (acc : List Nat) : Nat := o.after.toList.foldl (fun s e => if Region.binds .any e then s ||| 2 ^ e.on ||| acc.getD e.on 0 else s) 0
def rmasks : List Oper → List Nat → List Nat
  | [], acc => acc
  | o :: os, acc => rmasks os (acc ++ [rmask o acc])
theorem rmask_spec {S : Nat → Prop} {acc : List Nat} (hacc : ∀ i, S i → ∀ j, (acc.getD i 0).testBit j = true → S j) : ∀ (es : List Edge) (s : Nat), (∀ j, s.testBit j = true → S j) → (∀ e ∈ es, Region.binds .any e = true → S e.on) →
    ∀ j, (es.foldl (fun s e => if Region.binds .any e then s ||| 2 ^ e.on ||| acc.getD e.on 0 else s) s).testBit j = true → S j
  | [], s, hs, _ => hs
  | e :: es, s, hs, he => by
    refine rmask_spec hacc es _ ?_ (fun e' h => he e' (List.mem_cons_of_mem _ h))
    intro j hj
    by_cases hb : Region.binds .any e = true
    · dsimp only at hj
      rw [if_pos hb] at hj
      simp only [Nat.testBit_or, Bool.or_eq_true] at hj
      have hS := he e (by simp) hb
      rcases hj with (hj | hj) | hj
      · exact hs j hj
      · rw [Nat.testBit_two_pow] at hj
        have : e.on = j := by simpa using hj
        exact this ▸ hS
      · exact hacc _ hS j hj
    · dsimp only at hj
      rw [if_neg hb] at hj
      exact hs j hj
theorem rmasks_spec {S : Nat → Prop} : ∀ (os : List Oper) (acc : List Nat) (ops : List Oper), ops = ops.take acc.length ++ os → acc.length ≤ ops.length →
    (∀ k o, ops[k]? = some o → S k → ∀ e ∈ o.after, Region.binds .any e = true → S e.on) → (∀ i, S i → ∀ j, (acc.getD i 0).testBit j = true → S j) →
    ∀ i, S i → ∀ j, ((rmasks os acc).getD i 0).testBit j = true → S j
  | [], acc, ops, _, _, _, hacc => hacc
  | o :: os, acc, ops, he, hl, hcl, hacc => by
    have hk : ops[acc.length]? = some o := by
      rw [he, List.getElem?_append_right (by simp; exact Nat.min_le_left _ _)]
      simp [Nat.min_eq_left hl]
    have hlt : acc.length < ops.length := (List.getElem?_eq_some_iff.1 hk).1
    refine rmasks_spec os (acc ++ [rmask o acc]) ops ?_ (by simp; omega) hcl ?_
    · simp only [List.length_append, List.length_cons, List.length_nil, Nat.zero_add]
      rw [List.take_succ_eq_append_getElem hlt, List.append_assoc]
      have : ops[acc.length] = o := by
        rw [List.getElem?_eq_getElem hlt] at hk; exact Option.some.inj hk
      rw [this]; exact he
    · intro i hi j hj
      rcases Nat.lt_trichotomy i acc.length with h | h | h
      · rw [List.getD_eq_getElem?_getD, List.getElem?_append_left h, ← List.getD_eq_getElem?_getD] at hj
        exact hacc i hi j hj
      · subst h
        rw [List.getD_eq_getElem?_getD, List.getElem?_append_right (Nat.le_refl _)] at hj
        simp only [Nat.sub_self, List.getElem?_cons_zero, Option.getD_some] at hj
        exact rmask_spec hacc _ 0 (fun j h => by simp at h) (fun e h hb => hcl _ o hk hi e (by simpa using h) hb) j hj
      · rw [List.getD_eq_getElem?_getD, List.getElem?_eq_none (by simp; omega)] at hj
        simp at hj

/-! ### the walk -/
abbrev TT := Value ⊕ (Value → World → Prop)
def ttHolds (T : TT) (v : Value) (w : World) : Prop := match T with
  | .inl c => v = c
  | .inr F => F v w
def ttVal (T : TT) (v : Value) : Value := match T with
  | .inl c => c
  | .inr _ => v
/-- a block is as it was, but for its marks. -/
def SameBlk (o o' : Option Obj) : Prop := o' = o ∨ ∃ cs T fr fr', o = some (.cells cs T fr) ∧ o' = some (.cells cs T fr')
/-- below block number B all is as it was; and every block that was there holds what it held (one that was made meanwhile may have been marked). -/
structure Stay (B : Nat) (w w' : World) : Prop where
  below : Below B w w'
  blk : ∀ b, b < w.heap.size → SameBlk w.heap[b]? w'.heap[b]?
theorem Stay.refl (B : Nat) (w : World) : Stay B w w := ⟨Below.refl _ _, fun _ _ => .inl rfl⟩
theorem Stay.of {B : Nat} {w w' : World} (h : Below w.heap.size w w') (hB : B ≤ w.heap.size) : Stay B w w' := ⟨h.mono hB, fun b hb => .inl (h.block b hb)⟩
theorem Stay.cell {B : Nat} {w w' : World} (h : Stay B w w') (b o : Nat) (hb : b < w.heap.size) : w'.cell? ⟨b, o, none⟩ = w.cell? ⟨b, o, none⟩ := by
  rcases h.blk b hb with e | ⟨cs, T, fr, fr', e1, e2⟩
  · exact World.cell?_of_block (w := w) (w' := w') (a := ⟨b, o, none⟩) e
  · obtain ⟨x, y⟩ := fr
    obtain ⟨x', y'⟩ := fr'
    rw [cell_of_row w b o cs T (x, y) e1, cell_of_row w' b o cs T (x', y') e2]
def Keeps (F : Value → World → Prop) : Prop := ∀ v w w', F v w → Stay 0 w w' → F v w'
def ttKeeps (T : TT) : Prop := match T with
  | .inl _ => True
  | .inr F => Keeps F
theorem ttKeeps.on {T : TT} (h : ttKeeps T) {v : Value} {B : Nat} {w w' : World} (hv : ttHolds T v w) (hb : Stay B w w') : ttHolds T v w' := by
  cases T with
  | inl c => exact hv
  | inr F => exact h v w w' hv ⟨hb.below.mono (Nat.zero_le _), hb.blk⟩
def relUpon (P : Program) (B : Nat) (T : TT) (w : World) : Result Next → Prop
  | .ok (.value v) w' => Stay B w w' ∧ ttHolds T v w'
  | .ok (.enter f args) w' => w' = w ∧ Calls P f args w (fun e w'' => ∃ v, e = .returned v ∧ Stay B w w'' ∧ ttHolds T v w'')
  | _ => False
def relOp (P : Program) (B : Nat) (ops : Array Oper) (o : Oper) (a : Act) (T : TT) (w : World) : Prop :=
  if Region.wanted o (yielded ops a.tmps) then relUpon P B T w ((execOp a.eval o).run P w) else ttHolds T undef w
def factsOn (Φ : List (Tmp × (World → Prop))) (ts : List Tmp) (w : World) : Prop := ∀ p ∈ Φ, p.1 ∈ ts → p.2 w
def relWalk (P : Program) (ops : Array Oper) (w0 : World) (fin : Act → World → Prop) : List Oper → List TT → Act → List (Tmp × (World → Prop)) → Prop
  | o :: os, T :: Ts, a, Φ => (∀ w, Below w0.heap.size w0 w → factsOn Φ (o.looksAt ops) w → relOp P w0.heap.size ops o a T w) ∧
      (match T with
       | .inl c => relWalk P ops w0 fin os Ts (a.put o.dst c) Φ
       | .inr F => Keeps F ∧ ∀ v, relWalk P ops w0 fin os Ts (a.put o.dst v) (Φ ++ [(o.dst.getD 0, F v)]))
  | _, _, a, Φ => ∀ w, Below w0.heap.size w0 w → (∀ p ∈ Φ, p.2 w) → fin a w

def lexA : List Oper → List TT → (Nat → Value) → Nat → Act → Act
  | o :: os, T :: Ts, vs, k + 1, a => lexA os Ts (fun j => vs (j + 1)) k (a.put o.dst (ttVal T (vs 0)))
  | _, _, _, _, a => a
theorem lexA_defers : ∀ (os : List Oper) (Ts : List TT) (vs : Nat → Value) (k : Nat) (a : Act), (lexA os Ts vs k a).defers = a.defers
  | [], _, _, _, _ => by simp [lexA]
  | _ :: _, [], _, _, _ => by simp [lexA]
  | _ :: _, _ :: _, _, 0, _ => by simp [lexA]
  | o :: os, T :: Ts, vs, k + 1, a => by
    simp only [lexA]; rw [lexA_defers os Ts _ k]; cases h : o.dst <;> rfl
theorem lexA_size : ∀ (os : List Oper) (Ts : List TT) (vs : Nat → Value) (k : Nat) (a : Act), (lexA os Ts vs k a).tmps.size = a.tmps.size
  | [], _, _, _, _ => by simp [lexA]
  | _ :: _, [], _, _, _ => by simp [lexA]
  | _ :: _, _ :: _, _, 0, _ => by simp [lexA]
  | o :: os, T :: Ts, vs, k + 1, a => by
    simp only [lexA]; rw [lexA_size os Ts _ k]; cases h : o.dst <;> simp [Act.put]
theorem put_get_ne (a : Act) (d : Option Tmp) (v : Value) (t : Nat) (h : d ≠ some t) : (a.put d v).tmps[t]? = a.tmps[t]? := by
  cases d with
  | none => rfl
  | some d => simp only [Act.put]; rw [Array.getElem?_setIfInBounds_ne (fun e => h (by rw [e]))]
theorem put_get (a : Act) (t : Tmp) (v : Value) (h : t < a.tmps.size) : (a.put (some t) v).tmps[t]? = some v := by
  simp [Act.put, h]
theorem lexA_ne : ∀ (os : List Oper) (Ts : List TT) (vs : Nat → Value) (k : Nat) (a : Act) (t : Nat), (∀ j o, j < k → os[j]? = some o → o.dst ≠ some t) → (lexA os Ts vs k a).tmps[t]? = a.tmps[t]?
  | [], _, _, _, _, _, _ => by simp [lexA]
  | _ :: _, [], _, _, _, _, _ => by simp [lexA]
  | _ :: _, _ :: _, _, 0, _, _, _ => by simp [lexA]
  | o :: os, T :: Ts, vs, k + 1, a, t, h => by
    simp only [lexA]
    rw [lexA_ne os Ts _ k _ t (fun j o' hj ho => h (j + 1) o' (by omega) (by simpa using ho)), put_get_ne _ _ _ _ (h 0 o (by omega) rfl)]
theorem lexA_get : ∀ (os : List Oper) (Ts : List TT) (vs : Nat → Value) (k : Nat) (a : Act) (t j : Nat) (o : Oper) (T : TT), j < k → os[j]? = some o → Ts[j]? = some T → o.dst = some t → t < a.tmps.size →
    (∀ i o', j < i → i < k → os[i]? = some o' → o'.dst ≠ some t) → (lexA os Ts vs k a).tmps[t]? = some (ttVal T (vs j))
  | [], _, _, _, _, _, j, _, _, _, h, _, _, _, _ => by simp at h
  | _ :: _, [], _, _, _, _, j, _, _, _, _, h, _, _, _ => by simp at h
  | _ :: _, _ :: _, _, 0, _, _, _, _, _, h, _, _, _, _, _ => by omega
  | o :: os, T :: Ts, vs, k + 1, a, t, 0, o', T', hj, ho, hT, hd, ht, hu => by
    simp only [List.getElem?_cons_zero, Option.some.injEq] at ho hT
    subst ho hT
    simp only [lexA]
    rw [lexA_ne os Ts _ k _ t (fun i o' hi ho => hu (i + 1) o' (by omega) (by omega) (by simpa using ho)), hd, put_get _ _ _ ht]
  | o :: os, T :: Ts, vs, k + 1, a, t, j + 1, o', T', hj, ho, hT, hd, ht, hu => by
    simp only [lexA]
    exact lexA_get os Ts (fun j => vs (j + 1)) k _ t j o' T' (by omega) (by simpa using ho) (by simpa using hT) hd (by cases h : o.dst <;> simp [Act.put] <;> exact ht)
      (fun i o'' h1 h2 ho' => hu (i + 1) o'' (by omega) (by omega) (by simpa using ho'))

section
variable {P : Program} {ops : Array Oper} {w0 : World} {fin : Act → World → Prop}
theorem relWalk_at : ∀ (os : List Oper) (Ts : List TT) (a : Act) (Φ : List (Tmp × (World → Prop))) (vs : Nat → Value) (k : Nat) (o : Oper) (T : TT), relWalk P ops w0 fin os Ts a Φ → os[k]? = some o → Ts[k]? = some T →
    ∀ w, Below w0.heap.size w0 w → factsOn Φ (o.looksAt ops) w → (∀ j o' F, j < k → os[j]? = some o' → Ts[j]? = some (Sum.inr F : TT) → o'.dst.getD 0 ∈ o.looksAt ops → F (vs j) w) → relOp P w0.heap.size ops o (lexA os Ts vs k a) T w
  | [], _, _, _, _, _, _, _, _, h, _ => by simp at h
  | _ :: _, [], _, _, _, _, _, _, _, _, h => by simp at h
  | o :: os, T :: Ts, a, Φ, vs, 0, o', T', h, ho, hT => by
    simp only [List.getElem?_cons_zero, Option.some.injEq] at ho hT
    subst ho hT
    intro w hb hf _
    simp only [lexA]
    exact h.1 w hb hf
  | o :: os, T :: Ts, a, Φ, vs, k + 1, o', T', h, ho, hT => by
    intro w hb hf hF
    simp only [lexA]
    cases T with
    | inl c => exact relWalk_at os Ts _ Φ (fun j => vs (j + 1)) k o' T' h.2 (by simpa using ho) (by simpa using hT) w hb hf (fun j o'' F hj h1 h2 h3 => hF (j + 1) o'' F (by omega) (by simpa using h1) (by simpa using h2) h3)
    | inr F0 =>
      refine relWalk_at os Ts _ _ (fun j => vs (j + 1)) k o' T' (h.2.2 (vs 0)) (by simpa using ho) (by simpa using hT) w hb ?_ (fun j o'' F hj h1 h2 h3 => hF (j + 1) o'' F (by omega) (by simpa using h1) (by simpa using h2) h3)
      intro p hp ht
      rcases List.mem_append.1 hp with hp | hp
      · exact hf p hp ht
      · simp only [List.mem_singleton] at hp
        subst hp
        exact hF 0 o F0 (by omega) rfl rfl ht
theorem relWalk_end : ∀ (os : List Oper) (Ts : List TT) (a : Act) (Φ : List (Tmp × (World → Prop))) (vs : Nat → Value), os.length = Ts.length → relWalk P ops w0 fin os Ts a Φ →
    ∀ w, Below w0.heap.size w0 w → (∀ p ∈ Φ, p.2 w) → (∀ j F, Ts[j]? = some (Sum.inr F : TT) → F (vs j) w) → fin (lexA os Ts vs os.length a) w
  | [], [], a, Φ, vs, _, h => fun w hb hf _ => by simpa [lexA] using h w hb hf
  | [], _ :: _, _, _, _, h, _ => by simp at h
  | _ :: _, [], _, _, _, h, _ => by simp at h
  | o :: os, T :: Ts, a, Φ, vs, hl, h => by
    intro w hb hf hF
    simp only [List.length_cons, lexA]
    cases T with
    | inl c => exact relWalk_end os Ts _ Φ (fun j => vs (j + 1)) (by simpa using hl) h.2 w hb hf (fun j F hj => hF (j + 1) F (by simpa using hj))
    | inr F0 =>
      refine relWalk_end os Ts _ _ (fun j => vs (j + 1)) (by simpa using hl) (h.2.2 (vs 0)) w hb ?_ (fun j F hj => hF (j + 1) F (by simpa using hj))
      intro p hp
      rcases List.mem_append.1 hp with hp | hp
      · exact hf p hp
      · simp only [List.mem_singleton] at hp
        subst hp
        exact hF 0 F0 rfl
theorem relWalk_keeps : ∀ (os : List Oper) (Ts : List TT) (a : Act) (Φ : List (Tmp × (World → Prop))), os.length = Ts.length → relWalk P ops w0 fin os Ts a Φ → ∀ T ∈ Ts, ttKeeps T
  | [], [], _, _, _, _ => fun T h => by simp at h
  | [], _ :: _, _, _, h, _ => by simp at h
  | _ :: _, [], _, _, h, _ => by simp at h
  | o :: os, T :: Ts, a, Φ, hl, h => by
    intro T' hT'
    cases T with
    | inl c =>
      rcases List.mem_cons.1 hT' with rfl | hT'
      · trivial
      · exact relWalk_keeps os Ts _ Φ (by simpa using hl) h.2 T' hT'
    | inr F =>
      rcases List.mem_cons.1 hT' with rfl | hT'
      · exact h.2.1
      · exact relWalk_keeps os Ts _ _ (by simpa using hl) (h.2.2 undef) T' hT'
end
end Go.Proofs.YtegekaocbalndaaGreatDoor
end

section
set_option linter.unusedSimpArgs false
set_option linter.unusedVariables false
namespace Go.Proofs.YtegekaocbalndaaGreatDoor
open Go.RowKit

/-- what a region must be: see XRel. 'n' operations in front, the rest forced; 'sz' slots. -/
def depB (m : List Nat) (k j : Nat) : Bool := (m.getD k 0).testBit j
def relFrontB (ops : Array Oper) (m : List Nat) (n sz k : Nat) (o : Oper) : Bool :=
  (match o.dst with | some t => decide (t < sz) && (List.range ops.size).all (fun j => j == k || (ops[j]?).bind (·.dst) != some t) | none => false) &&
  (o.looksAt ops).all fun t => (List.range ops.size).all fun j => (ops[j]?).bind (·.dst) != some t || (if j < k then depB m k j else (j == k || depB m j k))
def relOkB (ops : Array Oper) (n sz : Nat) : Bool :=
  let m := rmasks ops.toList []
  decide (n ≤ ops.size) && Region.noSelect ops &&
  (List.range ops.size).all fun k => match ops[k]? with
    | none => false
    | some o => o.after.all (fun e => decide (e.on < k)) && (if k < n then relFrontB ops m n sz k o else (List.range k).all (fun j => depB m k j))

structure RelOk (ops : Array Oper) (n sz : Nat) : Prop where
  le : n ≤ ops.size
  nosel : ∀ (j : Nat) (o : Oper) cs b, ops[j]? = some o → o.op ≠ .select cs b
  early : ∀ (k : Nat) (o : Oper), ops[k]? = some o → ∀ e ∈ o.after, e.on < k
  dst : ∀ (k : Nat) (o : Oper), ops[k]? = some o → k < n → ∃ t, o.dst = some t ∧ t < sz ∧ ∀ (j : Nat) (o' : Oper), ops[j]? = some o' → j ≠ k → o'.dst ≠ some t
  looks : ∀ (k : Nat) (o : Oper), ops[k]? = some o → k < n → ∀ t ∈ o.looksAt ops, ∀ (j : Nat) (o' : Oper), ops[j]? = some o' → o'.dst = some t → (j < k → depB (rmasks ops.toList []) k j = true) ∧ (k < j → depB (rmasks ops.toList []) j k = true)
  tail : ∀ (k : Nat) (o : Oper), ops[k]? = some o → n ≤ k → ∀ j, j < k → depB (rmasks ops.toList []) k j = true
theorem relOk_of {ops : Array Oper} {n sz : Nat} (h : relOkB ops n sz = true) : RelOk ops n sz := by
  simp only [relOkB, Bool.and_eq_true, decide_eq_true_eq, List.all_eq_true, List.mem_range] at h
  obtain ⟨⟨h1, h2⟩, h3⟩ := h
  have key : ∀ (k : Nat) (o : Oper), ops[k]? = some o → o.after.all (fun e => decide (e.on < k)) = true ∧ (if k < n then relFrontB ops (rmasks ops.toList []) n sz k o else (List.range k).all (fun j => depB (rmasks ops.toList []) k j)) = true := by
    intro k o ho
    have := h3 k (Array.getElem?_eq_some_iff.1 ho).1
    rw [ho] at this
    simpa using this
  refine ⟨h1, Region.noSelect_spec h2, ?_, ?_, ?_, ?_⟩
  · intro k o ho e he
    have := (key k o ho).1
    simp only [Array.all_eq_true_iff_forall_mem, decide_eq_true_eq] at this
    exact this e he
  · intro k o ho hk
    have := (key k o ho).2
    rw [if_pos hk] at this
    simp only [relFrontB, Bool.and_eq_true] at this
    obtain ⟨h4, _⟩ := this
    cases hd : o.dst with
    | none => rw [hd] at h4; simp at h4
    | some t =>
      rw [hd] at h4
      simp only [Bool.and_eq_true, decide_eq_true_eq, List.all_eq_true, List.mem_range, Bool.or_eq_true, beq_iff_eq, bne_iff_ne] at h4
      refine ⟨t, rfl, h4.1, fun j o' ho' hjk => ?_⟩
      have := h4.2 j (Array.getElem?_eq_some_iff.1 ho').1
      rw [ho'] at this
      simpa [hjk] using this
  · intro k o ho hk t ht j o' ho' hd
    have := (key k o ho).2
    rw [if_pos hk] at this
    simp only [relFrontB, Bool.and_eq_true, List.all_eq_true, List.mem_range] at this
    have h5 := this.2 t ht j (Array.getElem?_eq_some_iff.1 ho').1
    rw [ho'] at h5
    simp [hd] at h5
    constructor
    · intro hjk; simpa [hjk] using h5
    · intro hkj
      have h1 : ¬ j < k := by omega
      have h2 : ¬ j = k := by omega
      simpa [h1, h2] using h5
  · intro k o ho hk j hj
    have := (key k o ho).2
    rw [if_neg (by omega)] at this
    simp only [List.all_eq_true, List.mem_range] at this
    exact this j hj

def relClosed (ops : Array Oper) (S : Nat → Prop) : Prop := ∀ (k : Nat) (o : Oper), ops[k]? = some o → S k → ∀ e ∈ o.after, Region.binds .any e = true → S e.on
theorem dep_closed {ops : Array Oper} {S : Nat → Prop} (h : relClosed ops S) {k j : Nat} (hk : S k) (hd : depB (rmasks ops.toList []) k j = true) : S j :=
  rmasks_spec (S := S) ops.toList [] ops.toList (by simp) (by simp) (fun k o ho => h k o (by simpa using ho)) (fun i _ j h => by simp at h) k hk j hd

/-- the tail goes in one order. -/
theorem relTail {P : Program} {ops : Array Oper} {n sz : Nat} {Q : Exit → Act → World → Prop} (hok : RelOk ops n sz) : ∀ (l : List Oper) (m : Nat) (listed : Array Bool) (a : Act) (w : World), n ≤ m → m + l.length = ops.size → l = ops.toList.drop m →
    listed.size = ops.size → (∀ i, i < ops.size → (listed.getD i false = true ↔ i < m)) → wpList P ops Q l a w → wpAny P .any ops Q l.length listed a w := by
  intro l
  induction l with
  | nil =>
    intro m listed a w hm hs hl hsz hL h
    refine ⟨?_, h⟩
    unfold Region.ready
    rw [List.filter_eq_nil_iff]
    intro i hi
    have hi' : i < ops.size := by simpa using hi
    have := (hL i hi').2 (by simp at hs; omega)
    have e : listed.getD i true = true := by
      rw [Array.getD_eq_getD_getElem?, Array.getElem?_eq_getElem (by omega)] at this ⊢; simpa using this
    rw [e]; simp
  | cons o l ih =>
    intro m listed a w hm hs hl hsz hL h
    simp only [List.length_cons] at hs
    have hmlt : m < ops.size := by omega
    have ho : ops[m]? = some o := by
      have := congrArg (·[0]?) hl
      simpa using this.symm
    have hl' : l = ops.toList.drop (m + 1) := by
      have := congrArg List.tail hl
      simpa using this
    have hready : ∀ i ∈ Region.ready .any ops listed, i = m := by
      intro i hi
      unfold Region.ready at hi
      simp only [List.mem_filter, List.mem_range, Bool.and_eq_true, Bool.not_eq_true'] at hi
      obtain ⟨hi1, hi2, hi3⟩ := hi
      obtain ⟨oi, hoi⟩ : ∃ oi, ops[i]? = some oi := ⟨_, Array.getElem?_eq_getElem hi1⟩
      rw [hoi] at hi3
      simp only [Option.map_some, Option.getD_some, Array.all_eq_true_iff_forall_mem, Bool.or_eq_true, Bool.not_eq_true'] at hi3
      have hnl : ¬ i < m := fun h' => by
        have := (hL i hi1).2 h'
        rw [Array.getD_eq_getD_getElem?, Array.getElem?_eq_getElem (by omega)] at this hi2
        simp at this hi2; rw [this] at hi2; cases hi2
      by_cases him : i = m
      · exact him
      · exfalso
        have hd := hok.tail i oi hoi (by omega) m (by omega)
        have := dep_closed (ops := ops) (S := fun k => k < m ∨ k = i) (fun k o' ho' hk e he hb => by
          rcases hk with hk | rfl
          · exact .inl (Nat.lt_trans (hok.early k o' ho' e he) hk)
          · rw [hoi] at ho'; cases ho'
            rcases hi3 e he with h' | h'
            · rw [hb] at h'; cases h'
            · exact .inl ((hL e.on (Nat.lt_trans (hok.early _ _ hoi e he) hi1)).1 h')) (.inr rfl) hd
        omega
    refine ⟨?_, ?_⟩
    · intro hr
      exfalso
      have : m ∈ Region.ready .any ops listed := by
        unfold Region.ready
        simp only [List.mem_filter, List.mem_range, Bool.and_eq_true, Bool.not_eq_true']
        refine ⟨hmlt, ?_, ?_⟩
        · have : ¬ (listed.getD m false = true) := fun h' => by have := (hL m hmlt).1 h'; omega
          rw [Array.getD_eq_getD_getElem?, Array.getElem?_eq_getElem (by omega)] at this ⊢
          simpa using this
        · rw [ho]
          simp only [Option.map_some, Option.getD_some, Array.all_eq_true_iff_forall_mem, Bool.or_eq_true]
          intro e he
          have h1 := hok.early m o ho e he
          exact .inr ((hL e.on (by omega)).2 h1)
      rw [hr] at this
      simp at this
    · intro i hi
      obtain rfl := hready i hi
      have hstep : ∀ a w, wpList P ops Q l a w → wpAny P .any ops Q l.length (listed.setIfInBounds i true) a w := fun a w h' =>
        ih (i + 1) (listed.setIfInBounds i true) a w (by omega) (by omega) hl' (by simpa using hsz) (fun j hj => by
          have h0 := hL j hj
          rw [Array.getD_eq_getD_getElem?] at h0 ⊢
          by_cases hji : j = i
          · subst hji
            rw [Array.getElem?_setIfInBounds_self_of_lt (by omega)]; simp
          · rw [Array.getElem?_setIfInBounds_ne (fun e => hji e.symm), h0]; omega) h'
      unfold wpOp
      rw [ho]
      simp only
      unfold wpList at h
      split
      · rename_i hw
        rw [if_pos hw] at h
        exact h.imp (Oper.wp_mono hstep) id
      · rename_i hw
        rw [if_neg hw] at h
        exact hstep _ _ h
end Go.Proofs.YtegekaocbalndaaGreatDoor
end

section
set_option linter.unusedSimpArgs false
set_option linter.unusedVariables false
namespace Go.Proofs.YtegekaocbalndaaGreatDoor
open Go.RowKit

theorem filter_one (p q : Nat → Bool) (i : Nat) (hp : p i = true) (hq : q i = false) (h : ∀ j, j ≠ i → q j = p j) : ∀ N, i < N → ((List.range N).filter p).length = ((List.range N).filter q).length + 1
  | 0, hi => by omega
  | N + 1, hi => by
    rw [List.range_succ, List.filter_append, List.filter_append, List.length_append, List.length_append]
    by_cases hN : i = N
    · subst hN
      have e : (List.range i).filter p = (List.range i).filter q := List.filter_congr fun j hj => by
        have : j < i := by simpa using hj
        exact (h j (by omega)).symm
      rw [e]; simp [List.filter_cons, hp, hq]
    · have := filter_one p q i hp hq h N (by omega)
      rw [this]
      have e : [N].filter p = [N].filter q := List.filter_congr fun j hj => by
        have : j = N := by simpa using hj
        subst this; exact (h j (fun e => hN e.symm)).symm
      rw [e]; omega
theorem filter_ge (n : Nat) : ∀ N, ((List.range N).filter (fun i => decide (n ≤ i))).length = N - n
  | 0 => by simp
  | N + 1 => by
    rw [List.range_succ, List.filter_append, List.length_append, filter_ge n N]
    by_cases h : n ≤ N
    · simp [List.filter_cons, h]; omega
    · simp [List.filter_cons, h]; omega
def unl (listed : Array Bool) (N : Nat) : Nat := ((List.range N).filter (fun i => !listed.getD i false)).length

theorem getD_set (l : Array Bool) (i j : Nat) (hi : i < l.size) : (l.setIfInBounds i true).getD j false = if j = i then true else l.getD j false := by
  rw [Array.getD_eq_getD_getElem?]
  by_cases h : j = i
  · subst h; rw [Array.getElem?_setIfInBounds_self_of_lt hi]; simp
  · rw [Array.getElem?_setIfInBounds_ne (fun e => h e.symm), if_neg h, Array.getD_eq_getD_getElem?]

theorem wanted_congr {ops : Array Oper} {o : Oper} {t1 t2 : Array Value} (h : ∀ t ∈ o.looksAt ops, t1[t]? = t2[t]?) : Region.wanted o (yielded ops t1) = Region.wanted o (yielded ops t2) := by
  unfold Region.wanted
  cases hg : o.guard with
  | none => rfl
  | some p =>
    obtain ⟨j, want⟩ := p
    simp only
    have : yielded ops t1 j = yielded ops t2 j := by
      unfold yielded
      cases hd : (ops[j]?).bind (·.dst) with
      | none => rfl
      | some t =>
        have ht : t ∈ o.looksAt ops := by
          unfold Oper.looksAt
          rw [hg]
          simp [hd]
        simp only [Option.bind_some, h t ht]
    rw [this]
theorem eval_congr {ops : Array Oper} {o : Oper} {a b : Act} (hs : ∀ cs b, o.op ≠ .select cs b) (h : ∀ t ∈ o.looksAt ops, a.tmps[t]? = b.tmps[t]?) : execOp a.eval o = execOp b.eval o :=
  execOp_congr o hs fun x hx => by
    cases x with
    | tmp t =>
      have ht : t ∈ o.looksAt ops := List.mem_append_left _ (List.mem_filterMap.2 ⟨.tmp t, by simpa using hx, rfl⟩)
      simp only [Act.eval, Array.getD_eq_getD_getElem?, h t ht]
    | _ => rfl

structure RelInv (ops : Array Oper) (w0 : World) (a0 : Act) (Ts : List TT) (n : Nat) (listed : Array Bool) (a : Act) (w : World) : Prop where
  hb : Below w0.heap.size w0 w
  hd : a.defers = a0.defers
  hs : a.tmps.size = a0.tmps.size
  hsz : listed.size = ops.size
  hcl : relClosed ops (fun k => listed.getD k false = true)
  hn : ∀ i, n ≤ i → listed.getD i false = false
  hT : ∀ (i : Nat) (o : Oper) (T : TT), ops[i]? = some o → Ts[i]? = some T → listed.getD i false = true → ttHolds T (a.tmps.getD (o.dst.getD 0) undef) w
  h0 : ∀ t, (∀ (i : Nat) (o : Oper), ops[i]? = some o → listed.getD i false = true → o.dst ≠ some t) → a.tmps[t]? = a0.tmps[t]?

theorem RelInv.step {ops : Array Oper} {w0 : World} {a0 : Act} {Ts : List TT} {n : Nat} {listed : Array Bool} {a : Act} {w w' : World} (hok : RelOk ops n a0.tmps.size) (hk : ∀ T ∈ Ts, ttKeeps T)
    (I : RelInv ops w0 a0 Ts n listed a w) {i : Nat} {o : Oper} {T : TT} {v : Value} (ho : ops[i]? = some o) (hTi : Ts[i]? = some T) (hin : i < n) (hr : ∀ e ∈ o.after, Region.binds .any e = true → listed.getD e.on false = true)
    (hbw : Stay w0.heap.size w w') (hv : ttHolds T v w') : RelInv ops w0 a0 Ts n (listed.setIfInBounds i true) (a.put o.dst v) w' := by
  obtain ⟨t, hd, ht, hu⟩ := hok.dst i o ho hin
  have his : i < listed.size := by rw [I.hsz]; exact (Array.getElem?_eq_some_iff.1 ho).1
  refine ⟨I.hb.trans hbw.below, by rw [hd]; exact I.hd, by rw [hd]; simpa [Act.put] using I.hs, by simpa using I.hsz, ?_, ?_, ?_, ?_⟩
  · intro k o' ho' hk' e he hbd
    simp only [getD_set _ _ _ his] at hk' ⊢
    by_cases hki : k = i
    · subst hki
      rw [ho] at ho'; cases ho'
      rw [hr e he hbd]; split <;> rfl
    · rw [if_neg hki] at hk'
      have := I.hcl k o' ho' hk' e he hbd
      split
      · rfl
      · exact this
  · intro j hj
    rw [getD_set _ _ _ his, if_neg (by omega)]
    exact I.hn j hj
  · intro j o' T' ho' hT' hl
    rw [getD_set _ _ _ his] at hl
    by_cases hji : j = i
    · subst hji
      rw [ho] at ho'; cases ho'
      rw [hTi] at hT'; cases hT'
      rw [hd, Array.getD_eq_getD_getElem?, Option.getD_some, put_get _ _ _ (by rw [I.hs]; exact ht)]
      exact hv
    · rw [if_neg hji] at hl
      have hne := hu j o' ho' hji
      have hjn : j < n := by
        rcases Nat.lt_or_ge j n with h | h
        · exact h
        · rw [I.hn j h] at hl; cases hl
      obtain ⟨t', hd', _, _⟩ := hok.dst j o' ho' hjn
      have h1 := I.hT j o' T' ho' hT' hl
      rw [hd', Option.getD_some, Array.getD_eq_getD_getElem?] at h1 ⊢
      rw [hd, put_get_ne _ _ _ _ (fun e => hne (by rw [hd', ← e]))]
      exact (hk T' (List.mem_of_getElem? hT')).on h1 hbw
  · intro t' ht'
    have hne : some t ≠ some t' := fun e => by
      have := ht' i o ho (by rw [getD_set _ _ _ his, if_pos rfl])
      exact this (by rw [hd, e])
    rw [hd, put_get_ne _ _ _ _ hne]
    exact I.h0 t' fun j o' ho' hl => ht' j o' ho' (by
      rw [getD_set _ _ _ his]
      split
      · rfl
      · exact hl)

theorem relFront {P : Program} {ops : Array Oper} {n : Nat} {Q : Exit → Act → World → Prop} {w0 : World} {a0 : Act} {Ts : List TT} (hok : RelOk ops n a0.tmps.size) (hl : Ts.length = n)
    (hw : relWalk P ops w0 (fun a w => wpList P ops Q (ops.toList.drop n) a w) (ops.toList.take n) Ts a0 []) :
    ∀ (fuel : Nat) (listed : Array Bool) (a : Act) (w : World), RelInv ops w0 a0 Ts n listed a w → unl listed ops.size = fuel → wpAny P .any ops Q fuel listed a w := by
  have hlen : (ops.toList.take n).length = Ts.length := by rw [hl]; have := hok.le; simp; omega
  have hk := relWalk_keeps _ _ _ _ hlen hw
  have hTs : ∀ i, i < n → ∃ T, Ts[i]? = some T := fun i hi => ⟨_, List.getElem?_eq_getElem (by omega)⟩
  have hos : ∀ i (o : Oper), i < n → ((ops.toList.take n)[i]? = some o ↔ ops[i]? = some o) := fun i o hi => by simp [List.getElem?_take, hi]
  -- a frame in which each of the first k slots holds what was left in it
  have same : ∀ (k : Nat) (listed : Array Bool) (a : Act) (w : World), RelInv ops w0 a0 Ts n listed a w → k ≤ n → ∀ t,
      (∀ (j : Nat) (o : Oper), j < k → ops[j]? = some o → o.dst = some t → listed.getD j false = true) → (∀ (j : Nat) (o : Oper), k ≤ j → ops[j]? = some o → o.dst = some t → listed.getD j false = false) →
      a.tmps[t]? = (lexA (ops.toList.take n) Ts (fun j => a.tmps.getD (((ops[j]?).bind (·.dst)).getD 0) undef) k a0).tmps[t]? := by
    intro k listed a w I hkn t h1 h2
    by_cases hex : ∃ (j : Nat) (o : Oper), j < k ∧ ops[j]? = some o ∧ o.dst = some t
    · obtain ⟨j, o, hj, ho, hd⟩ := hex
      obtain ⟨T, hT⟩ := hTs j (by omega)
      obtain ⟨t', hd', ht', hu⟩ := hok.dst j o ho (by omega)
      rw [hd] at hd'; cases hd'
      rw [lexA_get _ _ _ k a0 t j o T hj ((hos j o (by omega)).2 ho) hT hd ht' (fun i o' hi hik ho' => hu i o' ((hos i o' (by omega)).1 ho') (by omega))]
      have h3 := I.hT j o T ho hT (h1 j o hj ho hd)
      rw [hd, Option.getD_some] at h3
      have h4 : a.tmps[t]? = some (a.tmps.getD t undef) := by
        rw [Array.getD_eq_getD_getElem?, Array.getElem?_eq_getElem (by rw [I.hs]; exact ht')]; rfl
      rw [h4]
      simp only [ho, Option.bind_some, hd, Option.getD_some]
      cases T with
      | inl c => exact congrArg some h3
      | inr F => rfl
    · rw [lexA_ne _ _ _ k a0 t (fun j o hj ho hd => hex ⟨j, o, hj, (hos j o (by omega)).1 ho, hd⟩)]
      refine I.h0 t fun j o ho hlj hd => ?_
      rcases Nat.lt_or_ge j k with h | h
      · exact hex ⟨j, o, h, ho, hd⟩
      · rw [h2 j o h ho hd] at hlj; cases hlj
  have full : ∀ (fuel : Nat) (listed : Array Bool) (a : Act) (w : World), RelInv ops w0 a0 Ts n listed a w → unl listed ops.size = fuel → (∀ i, i < n → listed.getD i false = true) → wpAny P .any ops Q fuel listed a w := by
    intro fuel listed a w I hf hall
    have hfu : (ops.toList.drop n).length = fuel := by
      rw [← hf]
      unfold unl
      rw [List.filter_congr (q := fun i => decide (n ≤ i)) (fun i hi => by
        by_cases h : n ≤ i
        · rw [I.hn i h]; simp [h]
        · rw [hall i (by omega)]; simp [h]), filter_ge]
      simp
    rw [← hfu]
    refine relTail hok (ops.toList.drop n) n listed a w (Nat.le_refl _) (by have := hok.le; simp; omega) rfl I.hsz (fun i hi => ?_) ?_
    · rcases Nat.lt_or_ge i n with h | h
      · exact ⟨fun _ => h, fun _ => hall i h⟩
      · rw [I.hn i h]; exact ⟨(fun h' => by cases h'), (fun h' => by omega)⟩
    · have he := relWalk_end (ops.toList.take n) Ts a0 [] (fun j => a.tmps.getD (((ops[j]?).bind (·.dst)).getD 0) undef) hlen hw w I.hb (by simp) (fun j F hF => by
        have hj : j < n := by have := (List.getElem?_eq_some_iff.1 hF).1; omega
        obtain ⟨o, ho⟩ : ∃ o, ops[j]? = some o := ⟨_, Array.getElem?_eq_getElem (by have := hok.le; omega)⟩
        have h3 := I.hT j o _ ho hF (hall j hj)
        simp only [ho, Option.bind_some]
        exact h3)
      have hA : a = lexA (ops.toList.take n) Ts (fun j => a.tmps.getD (((ops[j]?).bind (·.dst)).getD 0) undef) (ops.toList.take n).length a0 := by
        rw [hlen, hl]
        have h1 : a.tmps = (lexA (ops.toList.take n) Ts (fun j => a.tmps.getD (((ops[j]?).bind (·.dst)).getD 0) undef) n a0).tmps := by
          apply Array.ext'
          apply List.ext_getElem?
          intro t
          rw [Array.getElem?_toList, Array.getElem?_toList]
          exact same n listed a w I (Nat.le_refl _) t (fun j o hj _ _ => hall j hj) (fun j o hj _ _ => I.hn j hj)
        have h2 := lexA_defers (ops.toList.take n) Ts (fun j => a.tmps.getD (((ops[j]?).bind (·.dst)).getD 0) undef) n a0
        cases a with
        | mk tm df =>
          cases hx : lexA (ops.toList.take n) Ts (fun j => (Act.mk tm df).tmps.getD (((ops[j]?).bind (·.dst)).getD 0) undef) n a0 with
          | mk tm' df' =>
            rw [hx] at h1 h2
            have h3 := I.hd
            simp only at h1 h2 h3
            rw [h1, h3, h2]
      rw [← hA] at he
      exact he
  intro fuel
  induction fuel with
  | zero =>
    intro listed a w I hf
    refine full 0 listed a w I hf fun i hi => ?_
    cases h : listed.getD i false with
    | true => rfl
    | false =>
      exfalso
      have : i ∈ (List.range ops.size).filter (fun i => !listed.getD i false) := by
        simp only [List.mem_filter, List.mem_range]
        exact ⟨by have := hok.le; omega, by rw [h]; rfl⟩
      unfold unl at hf
      rw [List.length_eq_zero_iff.1 hf] at this
      simp at this
  | succ fuel ih =>
    intro listed a w I hf
    by_cases hall : ∀ i, i < n → listed.getD i false = true
    · exact full (fuel + 1) listed a w I hf hall
    · have hex : ∃ k, k < n ∧ listed.getD k false = false ∧ ∀ j, j < k → listed.getD j false = true := by
        have : ∃ k, k < n ∧ listed.getD k false = false := by
          apply Classical.byContradiction
          intro hne
          apply hall
          intro i hi
          cases h : listed.getD i false with
          | true => rfl
          | false => exact absurd ⟨i, hi, h⟩ hne
        obtain ⟨k, hk1, hk2⟩ := this
        induction k using Nat.strongRecOn with
        | ind k ihk =>
          by_cases hj : ∀ j, j < k → listed.getD j false = true
          · exact ⟨k, hk1, hk2, hj⟩
          · obtain ⟨j, hj1, hj2⟩ : ∃ j, j < k ∧ listed.getD j false = false := by
              apply Classical.byContradiction
              intro hne
              apply hj
              intro j hjk
              cases h : listed.getD j false with
              | true => rfl
              | false => exact absurd ⟨j, hjk, h⟩ hne
            exact ihk j hj1 (by omega) hj2
      obtain ⟨k, hkn, hkl, hkm⟩ := hex
      have rdy : ∀ i, i ∈ Region.ready .any ops listed ↔ i < ops.size ∧ listed.getD i false = false ∧ ∀ (o : Oper), ops[i]? = some o → ∀ e ∈ o.after, Region.binds .any e = true → listed.getD e.on false = true := by
        intro i
        unfold Region.ready
        simp only [List.mem_filter, List.mem_range, Bool.and_eq_true, Bool.not_eq_true']
        constructor
        · rintro ⟨h1, h2, h3⟩
          refine ⟨h1, ?_, fun o ho e he hb => ?_⟩
          · rw [Array.getD_eq_getD_getElem?, Array.getElem?_eq_getElem (by rw [I.hsz]; exact h1)] at h2 ⊢; exact h2
          · rw [ho] at h3
            simp only [Option.map_some, Option.getD_some, Array.all_eq_true_iff_forall_mem, Bool.or_eq_true, Bool.not_eq_true'] at h3
            rcases h3 e he with h | h
            · rw [hb] at h; cases h
            · exact h
        · rintro ⟨h1, h2, h3⟩
          refine ⟨h1, ?_, ?_⟩
          · rw [Array.getD_eq_getD_getElem?, Array.getElem?_eq_getElem (by rw [I.hsz]; exact h1)] at h2 ⊢; exact h2
          · rw [Array.getElem?_eq_getElem h1]
            simp only [Option.map_some, Option.getD_some, Array.all_eq_true_iff_forall_mem, Bool.or_eq_true, Bool.not_eq_true']
            intro e he
            cases hb : Region.binds .any e with
            | false => exact .inl rfl
            | true => exact .inr (h3 _ (Array.getElem?_eq_getElem h1) e he hb)
      refine ⟨fun hr => ?_, fun i hi => ?_⟩
      · exfalso
        have : k ∈ Region.ready .any ops listed := (rdy k).2 ⟨by have := hok.le; omega, hkl, fun o ho e he hb => hkm _ (hok.early k o ho e he)⟩
        rw [hr] at this
        simp at this
      · obtain ⟨hi1, hi2, hi3⟩ := (rdy i).1 hi
        obtain ⟨o, ho⟩ : ∃ o, ops[i]? = some o := ⟨_, Array.getElem?_eq_getElem hi1⟩
        have hdep : ∀ j, depB (rmasks ops.toList []) i j = true → j ≠ i → listed.getD j false = true := by
          intro j hd hji
          have := dep_closed (ops := ops) (S := fun k => listed.getD k false = true ∨ k = i) (fun k o' ho' hk' e he hb => by
            rcases hk' with hk' | rfl
            · exact .inl (I.hcl k o' ho' hk' e he hb)
            · exact .inl (hi3 o' ho' e he hb)) (.inr rfl) hd
          exact this.resolve_right hji
        have hin : i < n := by
          rcases Nat.lt_or_ge i n with h | h
          · exact h
          · have := hdep k (hok.tail i o ho h k (by omega)) (by omega)
            rw [hkl] at this; cases this
        obtain ⟨T, hT⟩ := hTs i hin
        have hup : ∀ j, i < j → depB (rmasks ops.toList []) j i = true → listed.getD j false = false := by
          intro j hij hd
          cases h : listed.getD j false with
          | false => rfl
          | true => have h' : listed.getD i false = true := dep_closed I.hcl h hd; rw [hi2] at h'; cases h'
        have hsame : ∀ t ∈ o.looksAt ops, a.tmps[t]? = (lexA (ops.toList.take n) Ts (fun j => a.tmps.getD (((ops[j]?).bind (·.dst)).getD 0) undef) i a0).tmps[t]? := by
          intro t ht
          refine same i listed a w I (by omega) t (fun j o' hj ho' hd => ?_) (fun j o' hj ho' hd => ?_)
          · exact hdep j ((hok.looks i o ho hin t ht j o' ho' hd).1 hj) (by omega)
          · by_cases hji : j = i
            · rw [hji]; exact hi2
            · exact hup j (by omega) ((hok.looks i o ho hin t ht j o' ho' hd).2 (by omega))
        have hop := relWalk_at (ops.toList.take n) Ts a0 [] (fun j => a.tmps.getD (((ops[j]?).bind (·.dst)).getD 0) undef) i o T hw ((hos i o hin).2 ho) hT w I.hb (fun p hp => by simp at hp) (fun j o' F hj ho' hF hd => by
          have ho'' := (hos j o' (by omega)).1 ho'
          obtain ⟨t', hd', _, _⟩ := hok.dst j o' ho'' (by omega)
          rw [hd', Option.getD_some] at hd
          have h3 := I.hT j o' _ ho'' hF (hdep j ((hok.looks i o ho hin t' hd j o' ho'' hd').1 hj) (by omega))
          simp only [ho'', Option.bind_some]
          exact h3)
        have hunl : unl (listed.setIfInBounds i true) ops.size = fuel := by
          have h1 := filter_one (fun j => !listed.getD j false) (fun j => !(listed.setIfInBounds i true).getD j false) i (by simp [hi2]) (by rw [getD_set _ _ _ (by rw [I.hsz]; exact hi1), if_pos rfl]; rfl) (fun j hj => by rw [getD_set _ _ _ (by rw [I.hsz]; exact hi1), if_neg hj]) ops.size hi1
          unfold unl at hf ⊢
          omega
        have hgo : ∀ v w', Stay w0.heap.size w w' → ttHolds T v w' → wpAny P .any ops Q fuel (listed.setIfInBounds i true) (a.put o.dst v) w' := fun v w' h1 h2 =>
          ih _ _ _ (I.step hok hk ho hT hin (hi3 o ho) h1 h2) hunl
        unfold relOp at hop
        rw [← wanted_congr hsame, ← eval_congr (ops := ops) (hok.nosel i o · · ho) hsame] at hop
        unfold wpOp
        rw [ho]
        simp only
        split
        · rename_i hwa
          rw [if_pos hwa] at hop
          refine .inl ?_
          unfold Oper.wp
          cases hrun : (execOp a.eval o).run P w with
          | halt h w' => rw [hrun] at hop; simp [relUpon] at hop
          | ok x w' =>
            rw [hrun] at hop
            cases x with
            | value v => exact hgo v w' hop.1 hop.2
            | enter f args =>
              obtain ⟨rfl, hc⟩ := hop
              refine hc.mono ?_
              rintro e w'' ⟨v, rfl, h1, h2⟩
              exact hgo v w'' h1 h2
            | _ => simp [relUpon] at hop
        · rename_i hwa
          rw [if_neg hwa] at hop
          exact hgo undef w (Stay.refl _ _) hop

/-- ONE WALK IN THE TEXT's ORDER SERVES EVERY ORDER. -/
theorem wp_region_rel {P : Program} {id : Nat} {Q : Exit → Act → World → Prop} {a : Act} {w : World} {l : List Oper} (n : Nat) (Ts : List TT) (hm : P.follows .mixedOrders = true) (hB : relOkB l.toArray n a.tmps.size = true) (hl : Ts.length = n)
    (h : relWalk P l.toArray w (fun a' w' => wpList P l.toArray Q (l.drop n) a' w') (l.take n) Ts a []) : (Code.region id l.toArray true).wp P Q a w := by
  have hok := relOk_of hB
  refine wp_region_any hm (relFront (w0 := w) (a0 := a) hok hl h _ _ a w.drew ⟨(Below.refl _ _).drew, rfl, rfl, by simp, ?_, ?_, ?_, ?_⟩ ?_)
  · intro k o ho hk
    exfalso
    simp only [Array.getD_eq_getD_getElem?] at hk
    by_cases h : k < l.length <;> simp [h] at hk
  · intro i hi; simp [Array.getD_eq_getD_getElem?]
    by_cases h : i < l.length <;> simp [h]
  · intro i o T ho hT hk
    exfalso
    rw [Array.getD_eq_getD_getElem?] at hk
    by_cases h : i < l.length <;> simp [h] at hk
  · intro t _; rfl
  · unfold unl
    rw [List.filter_congr (q := fun _ => true) (fun i hi => by
      rw [Array.getD_eq_getD_getElem?]
      by_cases h : i < l.length <;> simp [h]), List.filter_eq_self.2 (fun _ _ => rfl)]
    simp
end Go.Proofs.YtegekaocbalndaaGreatDoor
end
