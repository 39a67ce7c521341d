/- several texts in one: drawn regions whose loads stay what they are (INV), whose writing calls stand in a chain (, drawn regions as in XSe with no tail: a store, which has no destination, may stand among t -/
import Derived.Test.YtegekaocbalndaaGreatDoorSg
section
set_option linter.unusedSimpArgs false
set_option linter.unusedVariables false
namespace Go.Proofs.YtegekaocbalndaaGreatDoor
open Go.RowKit

abbrev PG := (Value → World → Prop) × Option (Value → World → Prop)
abbrev TG := Value ⊕ PG
def tgT (T : TG) : TT := match T with
  | .inl c => .inl c
  | .inr p => .inr p.1
def isG (T : TG) : Bool := match T with
  | .inl _ => false
  | .inr p => p.2.isSome
def KeepsV (S : World → Prop) : Prop := ∀ w w', S w → Below w.heap.size w w' → S w'
def KeepsF (FR : World → World → Prop) (F : Value → World → Prop) : Prop := ∀ v w w', F v w → FR w w' → F v w'
def relUponV (P : Program) (INV : World → Prop) (c : Value) (w : World) : Result Next → Prop
  | .ok (.value v) w' => (INV w' ∧ Below w.heap.size w w') ∧ v = c
  | .ok (.enter f args) w' => w' = w ∧ Calls P f args w (fun e w'' => e = .returned c ∧ INV w'' ∧ Below w.heap.size w w'')
  | _ => False
/-- what an operation leaves of which the value is not known ahead. -/
def GiveG (INV : World → Prop) (FR : World → World → Prop) (p : PG) (w : World) (v : Value) (w' : World) : Prop := INV w' ∧ p.1 v w' ∧ match p.2 with
  | none => Below w.heap.size w w'
  | some S => FR w w' ∧ S v w'
def relUponG (P : Program) (INV : World → Prop) (FR : World → World → Prop) (p : PG) (w : World) : Result Next → Prop
  | .ok (.value v) w' => GiveG INV FR p w v w'
  | .ok (.enter f args) w' => w' = w ∧ Calls P f args w (fun e w'' => ∃ v, e = .returned v ∧ GiveG INV FR p w v w'')
  | .ok .skip w' => GiveG INV FR p w undef w'
  | _ => False
def relOpV (P : Program) (INV : World → Prop) (ops : Array Oper) (o : Oper) (a : Act) (c : Value) (w : World) : Prop :=
  if Region.wanted o (yielded ops a.tmps) then relUponV P INV c w ((execOp a.eval o).run P w) else undef = c
def relOpG (P : Program) (INV : World → Prop) (FR : World → World → Prop) (ops : Array Oper) (o : Oper) (a : Act) (p : PG) (w : World) : Prop :=
  Region.wanted o (yielded ops a.tmps) = true ∧ relUponG P INV FR p w ((execOp a.eval o).run P w)
def nextS (p : PG) (v : Value) (S : World → Prop) : World → Prop := match p.2 with
  | none => S
  | some S' => S' v
def relWalkG (P : Program) (ops : Array Oper) (INV : World → Prop) (FR : World → World → Prop) (fin : Act → World → Prop) : List Oper → List TG → Act → List (Tmp × (World → Prop)) → (World → Prop) → Prop
  | o :: os, T :: Ts, a, Φ, S => match T with
     | .inl c => (∀ w, INV w → factsOn Φ (o.looksAt ops) w → relOpV P INV ops o a c w) ∧ relWalkG P ops INV FR fin os Ts (a.put o.dst c) Φ S
     | .inr p => (∀ w, INV w → (p.2.isSome = true → S w) → factsOn Φ (o.looksAt ops) w → relOpG P INV FR ops o a p w) ∧ KeepsF FR p.1 ∧ (∀ v, KeepsV S → KeepsV (nextS p v S)) ∧ ∀ v, relWalkG P ops INV FR fin os Ts (a.put o.dst v) (Φ ++ [(o.dst.getD 0, p.1 v)]) (nextS p v S)
  | _, _, a, Φ, S => ∀ w, INV w → S w → (∀ p ∈ Φ, p.2 w) → fin a w
def chainG (Ts : List TG) (vs : Nat → Value) (S : World → Prop) : Nat → World → Prop
  | 0 => S
  | k + 1 => match Ts[k]? with
    | some (.inr p) => nextS p (vs k) (chainG Ts vs S k)
    | _ => chainG Ts vs S k
theorem chainG_cons (T : TG) (Ts : List TG) (vs : Nat → Value) (S : World → Prop) : ∀ k, chainG (T :: Ts) vs S (k + 1) = chainG Ts (fun j => vs (j + 1)) (match T with | .inl _ => S | .inr p => nextS p (vs 0) S) k
  | 0 => by cases T <;> rfl
  | k + 1 => by
    show (match (T :: Ts)[k + 1]? with | some (.inr p) => nextS p (vs (k + 1)) (chainG (T :: Ts) vs S (k + 1)) | _ => chainG (T :: Ts) vs S (k + 1)) = _
    rw [chainG_cons T Ts vs S k, List.getElem?_cons_succ]
    rfl
theorem chainG_congr (Ts : List TG) (vs vs' : Nat → Value) (S : World → Prop) : ∀ k, (∀ j p, j < k → Ts[j]? = some (.inr p) → p.2.isSome = true → vs j = vs' j) → chainG Ts vs S k = chainG Ts vs' S k
  | 0, _ => rfl
  | k + 1, h => by
    have ih := chainG_congr Ts vs vs' S k (fun j p hj => h j p (by omega))
    show (match Ts[k]? with | some (.inr p) => nextS p (vs k) (chainG Ts vs S k) | _ => chainG Ts vs S k) = (match Ts[k]? with | some (.inr p) => nextS p (vs' k) (chainG Ts vs' S k) | _ => chainG Ts vs' S k)
    cases hT : Ts[k]? with
    | none => exact ih
    | some T =>
      cases T with
      | inl c => exact ih
      | inr p =>
        simp only
        unfold nextS
        cases hp : p.2 with
        | none => exact ih
        | some S' => simp only; rw [h k p (by omega) hT (by rw [hp]; rfl)]
theorem chainG_skip (Ts : List TG) (vs : Nat → Value) (S : World → Prop) (i : Nat) : ∀ d, (∀ j p, i ≤ j → j < i + d → Ts[j]? = some (.inr p) → p.2 = none) → chainG Ts vs S (i + d) = chainG Ts vs S i
  | 0, _ => rfl
  | d + 1, h => by
    have ih := chainG_skip Ts vs S i d (fun j p h1 h2 => h j p h1 (by omega))
    show (match Ts[i + d]? with | some (.inr p) => nextS p (vs (i + d)) (chainG Ts vs S (i + d)) | _ => chainG Ts vs S (i + d)) = _
    cases hT : Ts[i + d]? with
    | none => exact ih
    | some T =>
      cases T with
      | inl c => exact ih
      | inr p =>
        simp only
        unfold nextS
        rw [h (i + d) p (by omega) (by omega) hT]
        exact ih
theorem chainG_at (Ts : List TG) (vs : Nat → Value) (S : World → Prop) (i : Nat) (p : PG) (S' : Value → World → Prop) (h : Ts[i]? = some (.inr p)) (hp : p.2 = some S') : chainG Ts vs S (i + 1) = S' (vs i) := by
  show (match Ts[i]? with | some (.inr p) => nextS p (vs i) (chainG Ts vs S i) | _ => chainG Ts vs S i) = _
  rw [h]
  simp only [nextS, hp]

section
variable {P : Program} {ops : Array Oper} {INV : World → Prop} {FR : World → World → Prop} {fin : Act → World → Prop}
theorem relWalk_atV : ∀ (os : List Oper) (Ts : List TG) (a : Act) (Φ : List (Tmp × (World → Prop))) (S : World → Prop) (vs : Nat → Value) (k : Nat) (o : Oper) (c : Value), relWalkG P ops INV FR fin os Ts a Φ S → os[k]? = some o → Ts[k]? = some (.inl c) →
    ∀ w, INV w → factsOn Φ (o.looksAt ops) w → (∀ j o' p, j < k → os[j]? = some o' → Ts[j]? = some (Sum.inr p : TG) → o'.dst.getD 0 ∈ o.looksAt ops → p.1 (vs j) w) → relOpV P INV ops o (lexA os (Ts.map tgT) vs k a) c w
  | [], _, _, _, _, _, _, _, _, _, h, _ => by simp at h
  | _ :: _, [], _, _, _, _, _, _, _, _, _, h => by simp at h
  | o :: os, T :: Ts, a, Φ, S, vs, 0, o', c, h, ho, hT => by
    simp only [List.getElem?_cons_zero, Option.some.injEq] at ho hT
    subst ho hT
    intro w hb hf _
    simp only [lexA, List.map_cons]
    exact h.1 w hb hf
  | o :: os, T :: Ts, a, Φ, S, vs, k + 1, o', c, h, ho, hT => by
    intro w hb hf hF
    simp only [lexA, List.map_cons]
    cases T with
    | inl c0 => exact relWalk_atV os Ts _ Φ S (fun j => vs (j + 1)) k o' c h.2 (by simpa using ho) (by simpa using hT) w hb hf (fun j o'' F hj h1 h2 h3 => hF (j + 1) o'' F (by omega) (by simpa using h1) (by simpa using h2) h3)
    | inr p0 =>
      refine relWalk_atV os Ts _ _ _ (fun j => vs (j + 1)) k o' c (h.2.2.2 (vs 0)) (by simpa using ho) (by simpa using hT) w hb ?_ (fun j o'' F hj h1 h2 h3 => hF (j + 1) o'' F (by omega) (by simpa using h1) (by simpa using h2) h3)
      intro p hp ht
      rcases List.mem_append.1 hp with hp | hp
      · exact hf p hp ht
      · simp only [List.mem_singleton] at hp
        subst hp
        exact hF 0 o p0 (by omega) rfl rfl ht
theorem relWalk_atG : ∀ (os : List Oper) (Ts : List TG) (a : Act) (Φ : List (Tmp × (World → Prop))) (S : World → Prop) (vs : Nat → Value) (k : Nat) (o : Oper) (p : PG), relWalkG P ops INV FR fin os Ts a Φ S → os[k]? = some o → Ts[k]? = some (.inr p) →
    ∀ w, INV w → (p.2.isSome = true → chainG Ts vs S k w) → factsOn Φ (o.looksAt ops) w → (∀ j o' p, j < k → os[j]? = some o' → Ts[j]? = some (Sum.inr p : TG) → o'.dst.getD 0 ∈ o.looksAt ops → p.1 (vs j) w) → relOpG P INV FR ops o (lexA os (Ts.map tgT) vs k a) p w
  | [], _, _, _, _, _, _, _, _, _, h, _ => by simp at h
  | _ :: _, [], _, _, _, _, _, _, _, _, _, h => by simp at h
  | o :: os, T :: Ts, a, Φ, S, vs, 0, o', p, h, ho, hT => by
    simp only [List.getElem?_cons_zero, Option.some.injEq] at ho hT
    subst ho hT
    intro w hb hs hf _
    simp only [lexA, List.map_cons]
    exact h.1 w hb hs hf
  | o :: os, T :: Ts, a, Φ, S, vs, k + 1, o', p, h, ho, hT => by
    intro w hb hs hf hF
    simp only [lexA, List.map_cons]
    rw [chainG_cons] at hs
    cases T with
    | inl c0 => exact relWalk_atG os Ts _ Φ S (fun j => vs (j + 1)) k o' p h.2 (by simpa using ho) (by simpa using hT) w hb hs hf (fun j o'' F hj h1 h2 h3 => hF (j + 1) o'' F (by omega) (by simpa using h1) (by simpa using h2) h3)
    | inr p0 =>
      refine relWalk_atG os Ts _ _ _ (fun j => vs (j + 1)) k o' p (h.2.2.2 (vs 0)) (by simpa using ho) (by simpa using hT) w hb hs ?_ (fun j o'' F hj h1 h2 h3 => hF (j + 1) o'' F (by omega) (by simpa using h1) (by simpa using h2) h3)
      intro p hp ht
      rcases List.mem_append.1 hp with hp | hp
      · exact hf p hp ht
      · simp only [List.mem_singleton] at hp
        subst hp
        exact hF 0 o p0 (by omega) rfl rfl ht
theorem relWalk_endG : ∀ (os : List Oper) (Ts : List TG) (a : Act) (Φ : List (Tmp × (World → Prop))) (S : World → Prop) (vs : Nat → Value), os.length = Ts.length → relWalkG P ops INV FR fin os Ts a Φ S →
    ∀ w, INV w → chainG Ts vs S os.length w → (∀ p ∈ Φ, p.2 w) → (∀ j p, Ts[j]? = some (Sum.inr p : TG) → p.1 (vs j) w) → fin (lexA os (Ts.map tgT) vs os.length a) w
  | [], [], a, Φ, S, vs, _, h => fun w hb hs hf _ => by simpa [lexA] using h w hb hs hf
  | [], _ :: _, _, _, _, _, h, _ => by simp at h
  | _ :: _, [], _, _, _, _, h, _ => by simp at h
  | o :: os, T :: Ts, a, Φ, S, vs, hl, h => by
    intro w hb hs hf hF
    simp only [List.length_cons, lexA, List.map_cons]
    rw [List.length_cons, chainG_cons] at hs
    cases T with
    | inl c => exact relWalk_endG os Ts _ Φ S (fun j => vs (j + 1)) (by simpa using hl) h.2 w hb hs hf (fun j F hj => hF (j + 1) F (by simpa using hj))
    | inr p0 =>
      refine relWalk_endG os Ts _ _ _ (fun j => vs (j + 1)) (by simpa using hl) (h.2.2.2 (vs 0)) w hb hs ?_ (fun j F hj => hF (j + 1) F (by simpa using hj))
      intro p hp
      rcases List.mem_append.1 hp with hp | hp
      · exact hf p hp
      · simp only [List.mem_singleton] at hp
        subst hp
        exact hF 0 p0 rfl
theorem chainG_keeps : ∀ (os : List Oper) (Ts : List TG) (a : Act) (Φ : List (Tmp × (World → Prop))) (S : World → Prop) (vs : Nat → Value), os.length = Ts.length → relWalkG P ops INV FR fin os Ts a Φ S → KeepsV S → ∀ k, KeepsV (chainG Ts vs S k)
  | [], [], _, _, _, _, _, _, hS, k => by
    induction k with
    | zero => exact hS
    | succ k ih => exact ih
  | [], _ :: _, _, _, _, _, h, _, _, _ => by simp at h
  | _ :: _, [], _, _, _, _, h, _, _, _ => by simp at h
  | o :: os, T :: Ts, a, Φ, S, vs, hl, h, hS, 0 => hS
  | o :: os, T :: Ts, a, Φ, S, vs, hl, h, hS, k + 1 => by
    rw [chainG_cons]
    cases T with
    | inl c => exact chainG_keeps os Ts _ Φ S _ (by simpa using hl) h.2 hS k
    | inr p => exact chainG_keeps os Ts _ _ _ _ (by simpa using hl) (h.2.2.2 (vs 0)) (h.2.2.1 (vs 0) hS) k
theorem relWalk_keepsG : ∀ (os : List Oper) (Ts : List TG) (a : Act) (Φ : List (Tmp × (World → Prop))) (S : World → Prop), os.length = Ts.length → relWalkG P ops INV FR fin os Ts a Φ S → ∀ p, (Sum.inr p : TG) ∈ Ts → KeepsF FR p.1
  | [], [], _, _, _, _, _, _, h => by simp at h
  | [], _ :: _, _, _, _, h, _, _, _ => by simp at h
  | _ :: _, [], _, _, _, h, _, _, _ => by simp at h
  | o :: os, T :: Ts, a, Φ, S, hl, h, p, hp => by
    cases T with
    | inl c =>
      rcases List.mem_cons.1 hp with e | hp
      · cases e
      · exact relWalk_keepsG os Ts _ Φ S (by simpa using hl) h.2 p hp
    | inr p0 =>
      rcases List.mem_cons.1 hp with e | hp
      · injection e with e; subst e; exact h.2.1
      · exact relWalk_keepsG os Ts _ _ _ (by simpa using hl) (h.2.2.2 undef) p hp
end

/-- what the slots hold that the operations leave their values in. -/
def slotG (ops : Array Oper) (a : Act) (j : Nat) : Value := a.tmps.getD (((ops[j]?).bind (·.dst)).getD 0) undef
structure RelInvG (ops : Array Oper) (INV : World → Prop) (S0 : World → Prop) (a0 : Act) (Ts : List TG) (n : Nat) (listed : Array Bool) (a : Act) (w : World) : Prop where
  hb : INV w
  hd : a.defers = a0.defers
  hs : a.tmps.size = a0.tmps.size
  hsz : listed.size = ops.size
  hcl : relClosed ops (fun k => listed.getD k false = true)
  hn : ∀ i, n ≤ i → listed.getD i false = false
  hT : ∀ (i : Nat) (o : Oper) (T : TG), ops[i]? = some o → Ts[i]? = some T → listed.getD i false = true → ttHolds (tgT T) (a.tmps.getD (o.dst.getD 0) undef) w
  h0 : ∀ t, (∀ (i : Nat) (o : Oper), ops[i]? = some o → listed.getD i false = true → o.dst ≠ some t) → a.tmps[t]? = a0.tmps[t]?
  hS : ∀ p, (∀ i q, i < p → Ts[i]? = some (Sum.inr q : TG) → q.2.isSome = true → listed.getD i false = true) → (∀ i q, p ≤ i → Ts[i]? = some (Sum.inr q : TG) → q.2.isSome = true → listed.getD i false = false) → chainG Ts (slotG ops a) S0 p w
/-- the writing ones wait one for another. -/
def chainGok (ops : Array Oper) (Ts : List TG) : Prop := ∀ i j q r, i < j → Ts[i]? = some (Sum.inr q : TG) → Ts[j]? = some (Sum.inr r : TG) → q.2.isSome = true → r.2.isSome = true → depB (rmasks ops.toList []) j i = true
def chainGokB (ops : Array Oper) (pat : List Bool) : Bool := let m := rmasks ops.toList []
  (List.range pat.length).all fun j => !pat.getD j false || (List.range j).all fun i => !pat.getD i false || depB m j i
theorem chainGok_of {ops : Array Oper} {Ts : List TG} {pat : List Bool} (hp : Ts.map isG = pat) (h : chainGokB ops pat = true) : chainGok ops Ts := by
  intro i j q r hij hi hj hq hr
  simp only [chainGokB, List.all_eq_true, List.mem_range, Bool.or_eq_true, Bool.not_eq_true'] at h
  have hpj : pat.getD j false = true := by rw [← hp]; simp [List.getD_eq_getElem?_getD, hj, isG, hr]
  have hpi : pat.getD i false = true := by rw [← hp]; simp [List.getD_eq_getElem?_getD, hi, isG, hq]
  have hjl : j < pat.length := by rw [← hp, List.length_map]; exact (List.getElem?_eq_some_iff.1 hj).1
  rcases h j hjl with h1 | h1
  · rw [hpj] at h1; cases h1
  · rcases h1 i hij with h2 | h2
    · rw [hpi] at h2; cases h2
    · exact h2

theorem RelInvG.step {ops : Array Oper} {INV S0 : World → Prop} {a0 : Act} {Ts : List TG} {n : Nat} {listed : Array Bool} {a : Act} {w w' : World} (hok : RelOk ops n a0.tmps.size) (hl : Ts.length = n) (hch : chainGok ops Ts)
    (I : RelInvG ops INV S0 a0 Ts n listed a w) {i : Nat} {o : Oper} {T : TG} {v : Value} (ho : ops[i]? = some o) (hTi : Ts[i]? = some T) (hin : i < n) (hr : ∀ e ∈ o.after, Region.binds .any e = true → listed.getD e.on false = true) (hni : listed.getD i false = false)
    (hI : INV w') {FR : World → World → Prop} (hFR : FR w w') (hKF : ∀ p, (Sum.inr p : TG) ∈ Ts → KeepsF FR p.1) (hv : ttHolds (tgT T) v w')
    (hS : match T with
      | .inl _ => ∀ p, chainG Ts (slotG ops a) S0 p w → chainG Ts (slotG ops a) S0 p w'
      | .inr q => match q.2 with
        | none => ∀ p, chainG Ts (slotG ops a) S0 p w → chainG Ts (slotG ops a) S0 p w'
        | some S => S v w') : RelInvG ops INV S0 a0 Ts n (listed.setIfInBounds i true) (a.put o.dst v) w' := by
  obtain ⟨t, hd, ht, hu⟩ := hok.dst i o ho hin
  have his : i < listed.size := by rw [I.hsz]; exact (Array.getElem?_eq_some_iff.1 ho).1
  have hdep : ∀ j, depB (rmasks ops.toList []) i j = true → j ≠ i → listed.getD j false = true := by
    intro j hd hji
    have := dep_closed (ops := ops) (S := fun k => listed.getD k false = true ∨ k = i) (fun k o' ho' hk' e he hb => by
      rcases hk' with hk' | rfl
      · exact .inl (I.hcl k o' ho' hk' e he hb)
      · rw [ho] at ho'; cases ho'; exact .inl (hr e he hb)) (.inr rfl) hd
    exact this.resolve_right hji
  have hsv : ∀ j, j ≠ i → j < n → slotG ops (a.put o.dst v) j = slotG ops a j := by
    intro j hji hjn
    obtain ⟨o', ho'⟩ : ∃ o', ops[j]? = some o' := ⟨_, Array.getElem?_eq_getElem (by have := hok.le; omega)⟩
    obtain ⟨t', hd', _, _⟩ := hok.dst j o' ho' hjn
    have hne := hu j o' ho' hji
    unfold slotG
    simp only [ho', Option.bind_some, hd', Option.getD_some, Array.getD_eq_getD_getElem?]
    rw [hd, put_get_ne _ _ _ _ (fun e => hne (by rw [hd', ← e]))]
  have hsi : slotG ops (a.put o.dst v) i = v := by
    unfold slotG
    simp only [ho, Option.bind_some, hd, Option.getD_some, Array.getD_eq_getD_getElem?]
    rw [put_get _ _ _ (by rw [I.hs]; exact ht)]; rfl
  refine ⟨hI, by rw [hd]; exact I.hd, by rw [hd]; simpa [Act.put] using I.hs, by simpa using I.hsz, ?_, ?_, ?_, ?_, ?_⟩
  · intro k o' ho' hk' e he hbd
    simp only [getD_set _ _ _ his] at hk' ⊢
    by_cases hki : k = i
    · subst hki
      rw [ho] at ho'; cases ho'
      rw [hr e he hbd]; split <;> rfl
    · rw [if_neg hki] at hk'
      have := I.hcl k o' ho' hk' e he hbd
      split
      · rfl
      · exact this
  · intro j hj
    rw [getD_set _ _ _ his, if_neg (by omega)]
    exact I.hn j hj
  · intro j o' T' ho' hT' hl
    rw [getD_set _ _ _ his] at hl
    by_cases hji : j = i
    · subst hji
      rw [ho] at ho'; cases ho'
      rw [hTi] at hT'; cases hT'
      rw [hd, Array.getD_eq_getD_getElem?, Option.getD_some, put_get _ _ _ (by rw [I.hs]; exact ht)]
      exact hv
    · rw [if_neg hji] at hl
      have hne := hu j o' ho' hji
      have hjn : j < n := by
        rcases Nat.lt_or_ge j n with h | h
        · exact h
        · rw [I.hn j h] at hl; cases hl
      obtain ⟨t', hd', _, _⟩ := hok.dst j o' ho' hjn
      have h1 := I.hT j o' T' ho' hT' hl
      rw [hd', Option.getD_some, Array.getD_eq_getD_getElem?] at h1 ⊢
      rw [hd, put_get_ne _ _ _ _ (fun e => hne (by rw [hd', ← e]))]
      cases T' with
      | inl c => exact h1
      | inr q => exact hKF q (List.mem_of_getElem? hT') _ _ _ h1 hFR
  · intro t' ht'
    have hne : some t ≠ some t' := fun e => by
      have := ht' i o ho (by rw [getD_set _ _ _ his, if_pos rfl])
      exact this (by rw [hd, e])
    rw [hd, put_get_ne _ _ _ _ hne]
    exact I.h0 t' fun j o' ho' hl => ht' j o' ho' (by
      rw [getD_set _ _ _ his]
      split
      · rfl
      · exact hl)
  · intro p h1 h2
    simp only [getD_set _ _ _ his] at h1 h2
    have calm : (∀ q, Ts[i]? = some (Sum.inr q : TG) → q.2 = none) → (∀ p, chainG Ts (slotG ops a) S0 p w → chainG Ts (slotG ops a) S0 p w') → chainG Ts (slotG ops (a.put o.dst v)) S0 p w' := fun hno hS => by
      have hne : ∀ j q, Ts[j]? = some (Sum.inr q : TG) → q.2.isSome = true → j ≠ i := fun j q hj hq e => by
        subst e
        rw [hno q hj] at hq; cases hq
      rw [chainG_congr Ts (slotG ops (a.put o.dst v)) (slotG ops a) S0 p (fun j q hj hq hs => hsv j (hne j q hq hs) (by have := (List.getElem?_eq_some_iff.1 hq).1; omega))]
      refine hS p (I.hS p (fun j q hj hq hs => ?_) (fun j q hj hq hs => ?_))
      · have := h1 j q hj hq hs; rwa [if_neg (hne j q hq hs)] at this
      · have := h2 j q hj hq hs; rwa [if_neg (hne j q hq hs)] at this
    cases T with
    | inl c => exact calm (fun q hq => by rw [hTi] at hq; cases hq) hS
    | inr q =>
      cases hq2 : q.2 with
      | none =>
        refine calm (fun q' hq' => by rw [hTi] at hq'; cases hq'; exact hq2) ?_
        simp only [hq2] at hS
        exact hS
      | some S' =>
        simp only [hq2] at hS
        have hqs : q.2.isSome = true := by rw [hq2]; rfl
        have hip : i < p := by
          rcases Nat.lt_or_ge i p with h | h
          · exact h
          · have := h2 i q h hTi hqs; simp at this
        obtain ⟨d, rfl⟩ : ∃ d, p = i + 1 + d := ⟨p - (i + 1), by omega⟩
        rw [chainG_skip Ts _ S0 (i + 1) d (fun j r hj1 hj2 hr2 => by
          cases hr3 : r.2 with
          | none => rfl
          | some _ =>
            have hrs : r.2.isSome = true := by rw [hr3]; rfl
            have h3 := h1 j r hj2 hr2 hrs
            rw [if_neg (by omega)] at h3
            have h4 := dep_closed I.hcl h3 (hch i j q r (by omega) hTi hr2 hqs hrs)
            rw [hni] at h4; cases h4), chainG_at Ts _ S0 i q S' hTi hq2, hsi]
        exact hS

theorem relFrontG {P : Program} {ops : Array Oper} {n : Nat} {Q : Exit → Act → World → Prop} {INV S0 : World → Prop} {FR : World → World → Prop} (hFR : ∀ w w', Below w.heap.size w w' → FR w w') {a0 : Act} {Ts : List TG} (hok : RelOk ops n a0.tmps.size) (hl : Ts.length = n) (hch : chainGok ops Ts) (hS0 : KeepsV S0)
    (hw : relWalkG P ops INV FR (fun a w => wpList P ops Q (ops.toList.drop n) a w) (ops.toList.take n) Ts a0 [] S0) :
    ∀ (fuel : Nat) (listed : Array Bool) (a : Act) (w : World), RelInvG ops INV S0 a0 Ts n listed a w → unl listed ops.size = fuel → wpAny P .any ops Q fuel listed a w := by
  have hlen : (ops.toList.take n).length = Ts.length := by rw [hl]; have := hok.le; simp; omega
  have hk := fun vs k => chainG_keeps _ _ _ _ _ vs hlen hw hS0 k
  have hKF := relWalk_keepsG _ _ _ _ _ hlen hw
  have hTs : ∀ i, i < n → ∃ T, Ts[i]? = some T := fun i hi => ⟨_, List.getElem?_eq_getElem (by omega)⟩
  have hos : ∀ i (o : Oper), i < n → ((ops.toList.take n)[i]? = some o ↔ ops[i]? = some o) := fun i o hi => by simp [List.getElem?_take, hi]
  -- a frame in which each of the first k slots holds what was left in it
  have same : ∀ (k : Nat) (listed : Array Bool) (a : Act) (w : World), RelInvG ops INV S0 a0 Ts n listed a w → k ≤ n → ∀ t,
      (∀ (j : Nat) (o : Oper), j < k → ops[j]? = some o → o.dst = some t → listed.getD j false = true) → (∀ (j : Nat) (o : Oper), k ≤ j → ops[j]? = some o → o.dst = some t → listed.getD j false = false) →
      a.tmps[t]? = (lexA (ops.toList.take n) (Ts.map tgT) (fun j => a.tmps.getD (((ops[j]?).bind (·.dst)).getD 0) undef) k a0).tmps[t]? := by
    intro k listed a w I hkn t h1 h2
    by_cases hex : ∃ (j : Nat) (o : Oper), j < k ∧ ops[j]? = some o ∧ o.dst = some t
    · obtain ⟨j, o, hj, ho, hd⟩ := hex
      obtain ⟨T, hT⟩ := hTs j (by omega)
      obtain ⟨t', hd', ht', hu⟩ := hok.dst j o ho (by omega)
      rw [hd] at hd'; cases hd'
      rw [lexA_get _ _ _ k a0 t j o (tgT T) hj ((hos j o (by omega)).2 ho) (by rw [List.getElem?_map, hT]; rfl) hd ht' (fun i o' hi hik ho' => hu i o' ((hos i o' (by omega)).1 ho') (by omega))]
      have h3 := I.hT j o T ho hT (h1 j o hj ho hd)
      rw [hd, Option.getD_some] at h3
      have h4 : a.tmps[t]? = some (a.tmps.getD t undef) := by
        rw [Array.getD_eq_getD_getElem?, Array.getElem?_eq_getElem (by rw [I.hs]; exact ht')]; rfl
      rw [h4]
      simp only [ho, Option.bind_some, hd, Option.getD_some]
      cases T with
      | inl c => exact congrArg some h3
      | inr F => rfl
    · rw [lexA_ne _ _ _ k a0 t (fun j o hj ho hd => hex ⟨j, o, hj, (hos j o (by omega)).1 ho, hd⟩)]
      refine I.h0 t fun j o ho hlj hd => ?_
      rcases Nat.lt_or_ge j k with h | h
      · exact hex ⟨j, o, h, ho, hd⟩
      · rw [h2 j o h ho hd] at hlj; cases hlj
  have full : ∀ (fuel : Nat) (listed : Array Bool) (a : Act) (w : World), RelInvG ops INV S0 a0 Ts n listed a w → unl listed ops.size = fuel → (∀ i, i < n → listed.getD i false = true) → wpAny P .any ops Q fuel listed a w := by
    intro fuel listed a w I hf hall
    have hfu : (ops.toList.drop n).length = fuel := by
      rw [← hf]
      unfold unl
      rw [List.filter_congr (q := fun i => decide (n ≤ i)) (fun i hi => by
        by_cases h : n ≤ i
        · rw [I.hn i h]; simp [h]
        · rw [hall i (by omega)]; simp [h]), filter_ge]
      simp
    rw [← hfu]
    refine relTail hok (ops.toList.drop n) n listed a w (Nat.le_refl _) (by have := hok.le; simp; omega) rfl I.hsz (fun i hi => ?_) ?_
    · rcases Nat.lt_or_ge i n with h | h
      · exact ⟨fun _ => h, fun _ => hall i h⟩
      · rw [I.hn i h]; exact ⟨(fun h' => by cases h'), (fun h' => by omega)⟩
    · have he := relWalk_endG (ops.toList.take n) Ts a0 [] S0 (fun j => a.tmps.getD (((ops[j]?).bind (·.dst)).getD 0) undef) hlen hw w I.hb (I.hS _ (fun i q hi hq _ => hall i (by have := (List.getElem?_eq_some_iff.1 hq).1; omega)) (fun i q hi hq _ => by have := (List.getElem?_eq_some_iff.1 hq).1; omega)) (by simp) (fun j F hF => by
        have hj : j < n := by have := (List.getElem?_eq_some_iff.1 hF).1; omega
        obtain ⟨o, ho⟩ : ∃ o, ops[j]? = some o := ⟨_, Array.getElem?_eq_getElem (by have := hok.le; omega)⟩
        have h3 := I.hT j o _ ho hF (hall j hj)
        simp only [ho, Option.bind_some]
        exact h3)
      have hA : a = lexA (ops.toList.take n) (Ts.map tgT) (fun j => a.tmps.getD (((ops[j]?).bind (·.dst)).getD 0) undef) (ops.toList.take n).length a0 := by
        rw [hlen, hl]
        have h1 : a.tmps = (lexA (ops.toList.take n) (Ts.map tgT) (fun j => a.tmps.getD (((ops[j]?).bind (·.dst)).getD 0) undef) n a0).tmps := by
          apply Array.ext'
          apply List.ext_getElem?
          intro t
          rw [Array.getElem?_toList, Array.getElem?_toList]
          exact same n listed a w I (Nat.le_refl _) t (fun j o hj _ _ => hall j hj) (fun j o hj _ _ => I.hn j hj)
        have h2 := lexA_defers (ops.toList.take n) (Ts.map tgT) (fun j => a.tmps.getD (((ops[j]?).bind (·.dst)).getD 0) undef) n a0
        cases a with
        | mk tm df =>
          cases hx : lexA (ops.toList.take n) (Ts.map tgT) (fun j => (Act.mk tm df).tmps.getD (((ops[j]?).bind (·.dst)).getD 0) undef) n a0 with
          | mk tm' df' =>
            rw [hx] at h1 h2
            have h3 := I.hd
            simp only at h1 h2 h3
            rw [h1, h3, h2]
      rw [← hA] at he
      exact he
  intro fuel
  induction fuel with
  | zero =>
    intro listed a w I hf
    refine full 0 listed a w I hf fun i hi => ?_
    cases h : listed.getD i false with
    | true => rfl
    | false =>
      exfalso
      have : i ∈ (List.range ops.size).filter (fun i => !listed.getD i false) := by
        simp only [List.mem_filter, List.mem_range]
        exact ⟨by have := hok.le; omega, by rw [h]; rfl⟩
      unfold unl at hf
      rw [List.length_eq_zero_iff.1 hf] at this
      simp at this
  | succ fuel ih =>
    intro listed a w I hf
    by_cases hall : ∀ i, i < n → listed.getD i false = true
    · exact full (fuel + 1) listed a w I hf hall
    · have hex : ∃ k, k < n ∧ listed.getD k false = false ∧ ∀ j, j < k → listed.getD j false = true := by
        have : ∃ k, k < n ∧ listed.getD k false = false := by
          apply Classical.byContradiction
          intro hne
          apply hall
          intro i hi
          cases h : listed.getD i false with
          | true => rfl
          | false => exact absurd ⟨i, hi, h⟩ hne
        obtain ⟨k, hk1, hk2⟩ := this
        induction k using Nat.strongRecOn with
        | ind k ihk =>
          by_cases hj : ∀ j, j < k → listed.getD j false = true
          · exact ⟨k, hk1, hk2, hj⟩
          · obtain ⟨j, hj1, hj2⟩ : ∃ j, j < k ∧ listed.getD j false = false := by
              apply Classical.byContradiction
              intro hne
              apply hj
              intro j hjk
              cases h : listed.getD j false with
              | true => rfl
              | false => exact absurd ⟨j, hjk, h⟩ hne
            exact ihk j hj1 (by omega) hj2
      obtain ⟨k, hkn, hkl, hkm⟩ := hex
      have rdy : ∀ i, i ∈ Region.ready .any ops listed ↔ i < ops.size ∧ listed.getD i false = false ∧ ∀ (o : Oper), ops[i]? = some o → ∀ e ∈ o.after, Region.binds .any e = true → listed.getD e.on false = true := by
        intro i
        unfold Region.ready
        simp only [List.mem_filter, List.mem_range, Bool.and_eq_true, Bool.not_eq_true']
        constructor
        · rintro ⟨h1, h2, h3⟩
          refine ⟨h1, ?_, fun o ho e he hb => ?_⟩
          · rw [Array.getD_eq_getD_getElem?, Array.getElem?_eq_getElem (by rw [I.hsz]; exact h1)] at h2 ⊢; exact h2
          · rw [ho] at h3
            simp only [Option.map_some, Option.getD_some, Array.all_eq_true_iff_forall_mem, Bool.or_eq_true, Bool.not_eq_true'] at h3
            rcases h3 e he with h | h
            · rw [hb] at h; cases h
            · exact h
        · rintro ⟨h1, h2, h3⟩
          refine ⟨h1, ?_, ?_⟩
          · rw [Array.getD_eq_getD_getElem?, Array.getElem?_eq_getElem (by rw [I.hsz]; exact h1)] at h2 ⊢; exact h2
          · rw [Array.getElem?_eq_getElem h1]
            simp only [Option.map_some, Option.getD_some, Array.all_eq_true_iff_forall_mem, Bool.or_eq_true, Bool.not_eq_true']
            intro e he
            cases hb : Region.binds .any e with
            | false => exact .inl rfl
            | true => exact .inr (h3 _ (Array.getElem?_eq_getElem h1) e he hb)
      refine ⟨fun hr => ?_, fun i hi => ?_⟩
      · exfalso
        have : k ∈ Region.ready .any ops listed := (rdy k).2 ⟨by have := hok.le; omega, hkl, fun o ho e he hb => hkm _ (hok.early k o ho e he)⟩
        rw [hr] at this
        simp at this
      · obtain ⟨hi1, hi2, hi3⟩ := (rdy i).1 hi
        obtain ⟨o, ho⟩ : ∃ o, ops[i]? = some o := ⟨_, Array.getElem?_eq_getElem hi1⟩
        have hdep : ∀ j, depB (rmasks ops.toList []) i j = true → j ≠ i → listed.getD j false = true := by
          intro j hd hji
          have := dep_closed (ops := ops) (S := fun k => listed.getD k false = true ∨ k = i) (fun k o' ho' hk' e he hb => by
            rcases hk' with hk' | rfl
            · exact .inl (I.hcl k o' ho' hk' e he hb)
            · exact .inl (hi3 o' ho' e he hb)) (.inr rfl) hd
          exact this.resolve_right hji
        have hin : i < n := by
          rcases Nat.lt_or_ge i n with h | h
          · exact h
          · have := hdep k (hok.tail i o ho h k (by omega)) (by omega)
            rw [hkl] at this; cases this
        obtain ⟨T, hT⟩ := hTs i hin
        have hup : ∀ j, i < j → depB (rmasks ops.toList []) j i = true → listed.getD j false = false := by
          intro j hij hd
          cases h : listed.getD j false with
          | false => rfl
          | true => have h' : listed.getD i false = true := dep_closed I.hcl h hd; rw [hi2] at h'; cases h'
        have hsame : ∀ t ∈ o.looksAt ops, a.tmps[t]? = (lexA (ops.toList.take n) (Ts.map tgT) (fun j => a.tmps.getD (((ops[j]?).bind (·.dst)).getD 0) undef) i a0).tmps[t]? := by
          intro t ht
          refine same i listed a w I (by omega) t (fun j o' hj ho' hd => ?_) (fun j o' hj ho' hd => ?_)
          · exact hdep j ((hok.looks i o ho hin t ht j o' ho' hd).1 hj) (by omega)
          · by_cases hji : j = i
            · rw [hji]; exact hi2
            · exact hup j (by omega) ((hok.looks i o ho hin t ht j o' ho' hd).2 (by omega))
        have hopI := fun c (hT : Ts[i]? = some (.inl c)) => relWalk_atV (ops.toList.take n) Ts a0 [] S0 (fun j => a.tmps.getD (((ops[j]?).bind (·.dst)).getD 0) undef) i o c hw ((hos i o hin).2 ho) hT w I.hb (fun p hp => by simp at hp) (fun j o' F hj ho' hF hd => by
          have ho'' := (hos j o' (by omega)).1 ho'
          obtain ⟨t', hd', _, _⟩ := hok.dst j o' ho'' (by omega)
          rw [hd', Option.getD_some] at hd
          have h3 := I.hT j o' _ ho'' hF (hdep j ((hok.looks i o ho hin t' hd j o' ho'' hd').1 hj) (by omega))
          simp only [ho'', Option.bind_some]
          exact h3)
        have hunl : unl (listed.setIfInBounds i true) ops.size = fuel := by
          have h1 := filter_one (fun j => !listed.getD j false) (fun j => !(listed.setIfInBounds i true).getD j false) i (by simp [hi2]) (by rw [getD_set _ _ _ (by rw [I.hsz]; exact hi1), if_pos rfl]; rfl) (fun j hj => by rw [getD_set _ _ _ (by rw [I.hsz]; exact hi1), if_neg hj]) ops.size hi1
          unfold unl at hf ⊢
          omega
        unfold wpOp
        rw [ho]
        simp only
        cases T with
        | inl c =>
          have hop := hopI c hT
          have hgo : ∀ v w', INV w' ∧ Below w.heap.size w w' → v = c → wpAny P .any ops Q fuel (listed.setIfInBounds i true) (a.put o.dst v) w' := fun v w' h1 h2 =>
            ih _ _ _ (I.step hok hl hch ho hT hin (hi3 o ho) hi2 h1.1 (hFR _ _ h1.2) hKF h2 (fun p hp => hk (slotG ops a) p w w' hp h1.2)) hunl
          unfold relOpV at hop
          rw [← wanted_congr hsame, ← eval_congr (ops := ops) (hok.nosel i o · · ho) hsame] at hop
          split
          · rename_i hwa
            rw [if_pos hwa] at hop
            refine .inl ?_
            unfold Oper.wp
            cases hrun : (execOp a.eval o).run P w with
            | halt h w' => rw [hrun] at hop; simp [relUponV] at hop
            | ok x w' =>
              rw [hrun] at hop
              cases x with
              | value v => exact hgo v w' hop.1 hop.2
              | enter f args =>
                obtain ⟨rfl, hc⟩ := hop
                refine hc.mono ?_
                rintro e w'' ⟨rfl, h1, h2⟩
                exact hgo _ w'' ⟨h1, h2⟩ rfl
              | _ => simp [relUponV] at hop
          · rename_i hwa
            rw [if_neg hwa] at hop
            exact hgo undef w ⟨I.hb, Below.refl _ _⟩ hop
        | inr q =>
          have hgo : ∀ v w', GiveG INV FR q w v w' → wpAny P .any ops Q fuel (listed.setIfInBounds i true) (a.put o.dst v) w' := fun v w' h => by
            obtain ⟨h1, h2, h3⟩ := h
            refine ih _ _ _ (I.step (FR := FR) hok hl hch ho hT hin (hi3 o ho) hi2 h1 ?_ hKF h2 ?_) hunl
            · cases hq2 : q.2 with
              | none => simp only [hq2] at h3; exact hFR _ _ h3
              | some S' => simp only [hq2] at h3; exact h3.1
            · cases hq2 : q.2 with
              | none => simp only [hq2] at h3 ⊢; exact fun p hp => hk (slotG ops a) p w w' hp h3
              | some S' => simp only [hq2] at h3 ⊢; exact h3.2
          have hop := relWalk_atG (ops.toList.take n) Ts a0 [] S0 (slotG ops a) i o q hw ((hos i o hin).2 ho) hT w I.hb (fun hqs => I.hS i (fun j r hj hr hrs => hdep j (hch j i r q hj hr hT hrs hqs) (by omega)) (fun j r hj hr hrs => by
            rcases Nat.lt_or_ge i j with h | h
            · exact hup j h (hch i j q r h hT hr hqs hrs)
            · have : j = i := by omega
              rw [this]; exact hi2)) (fun p hp => by simp at hp) (fun j o' F hj ho' hF hd => by
            have ho'' := (hos j o' (by omega)).1 ho'
            obtain ⟨t', hd', _, _⟩ := hok.dst j o' ho'' (by omega)
            rw [hd', Option.getD_some] at hd
            have h3 := I.hT j o' _ ho'' hF (hdep j ((hok.looks i o ho hin t' hd j o' ho'' hd').1 hj) (by omega))
            unfold slotG
            simp only [ho'', Option.bind_some]
            exact h3)
          unfold relOpG at hop
          have hsame' : ∀ t ∈ o.looksAt ops, a.tmps[t]? = (lexA (ops.toList.take n) (Ts.map tgT) (slotG ops a) i a0).tmps[t]? := hsame
          rw [← wanted_congr hsame', ← eval_congr (ops := ops) (hok.nosel i o · · ho) hsame'] at hop
          split
          · rename_i hwa
            have hop := hop.2
            refine .inl ?_
            unfold Oper.wp
            cases hrun : (execOp a.eval o).run P w with
            | halt h w' => rw [hrun] at hop; simp [relUponG] at hop
            | ok x w' =>
              rw [hrun] at hop
              cases x with
              | value v => exact hgo v w' hop
              | enter f args =>
                obtain ⟨rfl, hc⟩ := hop
                refine hc.mono ?_
                rintro e w'' ⟨v, rfl, h1⟩
                exact hgo v w'' h1
              | skip => exact hgo undef w' hop
              | _ => simp [relUponG] at hop
          · rename_i hwa
            exact absurd hop.1 hwa

/-- ONE WALK IN THE TEXT's ORDER SERVES EVERY ORDER: the loads under INV, the writing calls in their chain. -/
theorem wp_region_relG {P : Program} {id : Nat} {Q : Exit → Act → World → Prop} {a : Act} {w : World} {l : List Oper} (INV S0 : World → Prop) (FR : World → World → Prop) (n : Nat) (Ts : List TG) (pat : List Bool) (hm : P.follows .mixedOrders = true) (hB : relOkB l.toArray n a.tmps.size = true) (hC : chainGokB l.toArray pat = true) (hl : Ts.length = n) (hp : Ts.map isG = pat)
    (hFR : ∀ w w', Below w.heap.size w w' → FR w w') (hS : KeepsV S0) (hI : INV w.drew) (hS0 : S0 w.drew)
    (h : relWalkG P l.toArray INV FR (fun a' w' => wpList P l.toArray Q (l.drop n) a' w') (l.take n) Ts a [] S0) : (Code.region id l.toArray true).wp P Q a w := by
  have hok := relOk_of hB
  refine wp_region_any hm (relFrontG (INV := INV) (S0 := S0) (a0 := a) hFR hok hl (chainGok_of hp hC) hS h _ _ a w.drew ⟨hI, rfl, rfl, by simp, ?_, ?_, ?_, ?_, ?_⟩ ?_)
  · intro k o ho hk
    exfalso
    simp only [Array.getD_eq_getD_getElem?] at hk
    by_cases h : k < l.length <;> simp [h] at hk
  · intro i hi; simp [Array.getD_eq_getD_getElem?]
    by_cases h : i < l.length <;> simp [h]
  · intro i o T ho hT hk
    exfalso
    rw [Array.getD_eq_getD_getElem?] at hk
    by_cases h : i < l.length <;> simp [h] at hk
  · intro t _; rfl
  · intro p h1 _
    have : chainG Ts (slotG l.toArray a) S0 p = S0 := by
      have := chainG_skip Ts (slotG l.toArray a) S0 0 p (fun j q _ hj hq => by
        cases hq2 : q.2 with
        | none => rfl
        | some _ => ?_
        exfalso
        have := h1 j q (by omega) hq (by rw [hq2]; rfl)
        rw [Array.getD_eq_getD_getElem?] at this
        by_cases h : j < l.length <;> simp [h] at this)
      rw [Nat.zero_add] at this
      exact this
    rw [this]; exact hS0
  · unfold unl
    rw [List.filter_congr (q := fun _ => true) (fun i hi => by
      rw [Array.getD_eq_getD_getElem?]
      by_cases h : i < l.length <;> simp [h]), List.filter_eq_self.2 (fun _ _ => rfl)]
    simp
attribute [go_sem] relOpV relUponV
theorem rel_isG {P : Program} {ops : Array Oper} {INV S : World → Prop} {FR : World → World → Prop} {fin : Act → World → Prop} {o : Oper} {os : List Oper} {Ts : List TG} {a : Act} {Φ : List (Tmp × (World → Prop))} {c : Value}
    (h1 : ∀ w, INV w → factsOn Φ (o.looksAt ops) w → relOpV P INV ops o a c w) (h2 : relWalkG P ops INV FR fin os Ts (a.put o.dst c) Φ S) : relWalkG P ops INV FR fin (o :: os) (.inl c :: Ts) a Φ S := ⟨h1, h2⟩
/-- a writing one. -/
theorem rel_effG {P : Program} {ops : Array Oper} {INV S : World → Prop} {FR : World → World → Prop} {fin : Act → World → Prop} {o : Oper} {os : List Oper} {Ts : List TG} {a : Act} {Φ : List (Tmp × (World → Prop))} {F S' : Value → World → Prop}
    (h1 : ∀ w, INV w → S w → factsOn Φ (o.looksAt ops) w → relOpG P INV FR ops o a (F, some S') w) (hF : KeepsF FR F) (hk : ∀ v, KeepsV (S' v)) (h2 : ∀ v, relWalkG P ops INV FR fin os Ts (a.put o.dst v) (Φ ++ [(o.dst.getD 0, F v)]) (S' v)) : relWalkG P ops INV FR fin (o :: os) (.inr (F, some S') :: Ts) a Φ S :=
  ⟨fun w hb hs hf => h1 w hb (hs rfl) hf, hF, fun v _ => hk v, h2⟩
/-- one that makes. -/
theorem rel_newG {P : Program} {ops : Array Oper} {INV S : World → Prop} {FR : World → World → Prop} {fin : Act → World → Prop} {o : Oper} {os : List Oper} {Ts : List TG} {a : Act} {Φ : List (Tmp × (World → Prop))} {F : Value → World → Prop}
    (h1 : ∀ w, INV w → factsOn Φ (o.looksAt ops) w → relOpG P INV FR ops o a (F, none) w) (hF : KeepsF FR F) (h2 : ∀ v, relWalkG P ops INV FR fin os Ts (a.put o.dst v) (Φ ++ [(o.dst.getD 0, F v)]) S) : relWalkG P ops INV FR fin (o :: os) (.inr (F, none) :: Ts) a Φ S :=
  ⟨fun w hb _ hf => h1 w hb hf, hF, fun _ h => h, h2⟩
theorem rel_endG {P : Program} {ops : Array Oper} {INV S : World → Prop} {FR : World → World → Prop} {fin : Act → World → Prop} {a : Act} {Φ : List (Tmp × (World → Prop))}
    (h : ∀ w, INV w → S w → (∀ p ∈ Φ, p.2 w) → fin a w) : relWalkG P ops INV FR fin [] [] a Φ S := h
/-- a call in the chain. -/
theorem rel_callG {P : Program} {ops : Array Oper} {o : Oper} {a : Act} {INV : World → Prop} {FR : World → World → Prop} {p : PG} {W : World} (hw : Region.wanted o (yielded ops a.tmps) = true) {f : FuncId} {args : Array Value} (hr : (execOp a.eval o).run P W = .ok (.enter f args) W)
    (h : Calls P f args W fun e w'' => ∃ v, e = .returned v ∧ GiveG INV FR p W v w'') : relOpG P INV FR ops o a p W := by
  refine ⟨hw, ?_⟩
  rw [hr]
  exact ⟨rfl, h⟩
/-- an operation of its own that makes or writes. -/
theorem rel_valG {P : Program} {ops : Array Oper} {o : Oper} {a : Act} {INV : World → Prop} {FR : World → World → Prop} {p : PG} {W W' : World} {v : Value} (hw : Region.wanted o (yielded ops a.tmps) = true) (hr : (execOp a.eval o).run P W = .ok (.value v) W')
    (h : GiveG INV FR p W v W') : relOpG P INV FR ops o a p W := by
  refine ⟨hw, ?_⟩
  rw [hr]
  exact h
/-- an operation that writes and has no value. -/
theorem rel_skipG {P : Program} {ops : Array Oper} {o : Oper} {a : Act} {INV : World → Prop} {FR : World → World → Prop} {p : PG} {W W' : World} (hw : Region.wanted o (yielded ops a.tmps) = true) (hr : (execOp a.eval o).run P W = .ok .skip W')
    (h : GiveG INV FR p W undef W') : relOpG P INV FR ops o a p W := by
  refine ⟨hw, ?_⟩
  rw [hr]
  exact h
/-- a call that makes but writes nothing that was there, its value known. -/
theorem rel_callV {P : Program} {ops : Array Oper} {o : Oper} {a : Act} {INV : World → Prop} {c : Value} {W : World} (hw : Region.wanted o (yielded ops a.tmps) = true) {f : FuncId} {args : Array Value} (hr : (execOp a.eval o).run P W = .ok (.enter f args) W)
    (h : Calls P f args W fun e w'' => e = .returned c ∧ INV w'' ∧ Below W.heap.size W w'') : relOpV P INV ops o a c W := by
  unfold relOpV
  rw [if_pos hw, hr]
  exact ⟨rfl, h⟩
end Go.Proofs.YtegekaocbalndaaGreatDoor
end

section
set_option linter.unusedSimpArgs false
set_option linter.unusedVariables false
namespace Go.Proofs.YtegekaocbalndaaGreatDoor
open Go.RowKit

def relFrontNB (ops : Array Oper) (m : List Nat) (sz k : Nat) (o : Oper) : Bool :=
  (match o.dst with | some t => decide (t < sz) && (List.range ops.size).all (fun j => j == k || (ops[j]?).bind (·.dst) != some t) | none => true) &&
  (o.looksAt ops).all fun t => (List.range ops.size).all fun j => (ops[j]?).bind (·.dst) != some t || (if j < k then depB m k j else (j == k || depB m j k))
def relOkNB (ops : Array Oper) (sz : Nat) : Bool :=
  let m := rmasks ops.toList []
  Region.noSelect ops &&
  (List.range ops.size).all fun k => match ops[k]? with
    | none => false
    | some o => o.after.all (fun e => decide (e.on < k) || !Region.binds .any e) && relFrontNB ops m sz k o
structure RelOkN (ops : Array Oper) (sz : Nat) : Prop where
  nosel : ∀ (j : Nat) (o : Oper) cs b, ops[j]? = some o → o.op ≠ .select cs b
  early : ∀ (k : Nat) (o : Oper), ops[k]? = some o → ∀ e ∈ o.after, Region.binds .any e = true → e.on < k
  dst : ∀ (k : Nat) (o : Oper), ops[k]? = some o → ∀ t, o.dst = some t → t < sz ∧ ∀ (j : Nat) (o' : Oper), ops[j]? = some o' → j ≠ k → o'.dst ≠ some t
  looks : ∀ (k : Nat) (o : Oper), ops[k]? = some o → ∀ t ∈ o.looksAt ops, ∀ (j : Nat) (o' : Oper), ops[j]? = some o' → o'.dst = some t → (j < k → depB (rmasks ops.toList []) k j = true) ∧ (k < j → depB (rmasks ops.toList []) j k = true)
theorem relOkN_of {ops : Array Oper} {sz : Nat} (h : relOkNB ops sz = true) : RelOkN ops sz := by
  simp only [relOkNB, Bool.and_eq_true, decide_eq_true_eq, List.all_eq_true, List.mem_range] at h
  obtain ⟨h2, h3⟩ := h
  have key : ∀ (k : Nat) (o : Oper), ops[k]? = some o → o.after.all (fun e => decide (e.on < k) || !Region.binds .any e) = true ∧ relFrontNB ops (rmasks ops.toList []) sz k o = true := by
    intro k o ho
    have := h3 k (Array.getElem?_eq_some_iff.1 ho).1
    rw [ho] at this
    simpa only [Bool.and_eq_true] using this
  refine ⟨Region.noSelect_spec h2, ?_, ?_, ?_⟩
  · intro k o ho e he hb
    have := (key k o ho).1
    simp only [Array.all_eq_true_iff_forall_mem, Bool.or_eq_true, decide_eq_true_eq, Bool.not_eq_true'] at this
    rcases this e he with h | h
    · exact h
    · rw [hb] at h; cases h
  · intro k o ho t hd
    have := (key k o ho).2
    simp only [relFrontNB, Bool.and_eq_true] at this
    obtain ⟨h4, _⟩ := this
    rw [hd] at h4
    simp only [Bool.and_eq_true, decide_eq_true_eq, List.all_eq_true, List.mem_range, Bool.or_eq_true, beq_iff_eq, bne_iff_ne] at h4
    refine ⟨h4.1, fun j o' ho' hjk => ?_⟩
    have := h4.2 j (Array.getElem?_eq_some_iff.1 ho').1
    rw [ho'] at this
    simpa [hjk] using this
  · intro k o ho t ht j o' ho' hd
    have := (key k o ho).2
    simp only [relFrontNB, Bool.and_eq_true, List.all_eq_true, List.mem_range] at this
    have h5 := this.2 t ht j (Array.getElem?_eq_some_iff.1 ho').1
    rw [ho'] at h5
    simp [hd] at h5
    constructor
    · intro hjk; simpa [hjk] using h5
    · intro hkj
      have h1 : ¬ j < k := by omega
      have h2 : ¬ j = k := by omega
      simpa [h1, h2] using h5
/-- what hangs on no value. -/
def NoVal (T : TG) : Prop := match T with
  | .inl _ => False
  | .inr q => (∀ v w, q.1 v w) ∧ match q.2 with
    | none => True
    | some S => ∀ v, S v = S undef
def slotN (ops : Array Oper) (a : Act) (j : Nat) : Value := match (ops[j]?).bind (·.dst) with
  | some t => a.tmps.getD t undef
  | none => undef
theorem slotN_some {ops : Array Oper} {a : Act} {j : Nat} {o : Oper} {t : Tmp} (ho : ops[j]? = some o) (hd : o.dst = some t) : slotN ops a j = a.tmps.getD t undef := by
  unfold slotN; rw [ho]; simp only [Option.bind_some, hd]
theorem slotN_none {ops : Array Oper} {a : Act} {j : Nat} {o : Oper} (ho : ops[j]? = some o) (hd : o.dst = none) : slotN ops a j = undef := by
  unfold slotN; rw [ho]; simp only [Option.bind_some, hd]
structure RelInvN (ops : Array Oper) (INV : World → Prop) (S0 : World → Prop) (a0 : Act) (Ts : List TG) (listed : Array Bool) (a : Act) (w : World) : Prop where
  hb : INV w
  hd : a.defers = a0.defers
  hs : a.tmps.size = a0.tmps.size
  hsz : listed.size = ops.size
  hcl : relClosed ops (fun k => listed.getD k false = true)
  hT : ∀ (i : Nat) (o : Oper) (T : TG), ops[i]? = some o → Ts[i]? = some T → listed.getD i false = true → ttHolds (tgT T) (slotN ops a i) w
  h0 : ∀ t, (∀ (i : Nat) (o : Oper), ops[i]? = some o → listed.getD i false = true → o.dst ≠ some t) → a.tmps[t]? = a0.tmps[t]?
  hS : ∀ p, (∀ i q, i < p → Ts[i]? = some (Sum.inr q : TG) → q.2.isSome = true → listed.getD i false = true) → (∀ i q, p ≤ i → Ts[i]? = some (Sum.inr q : TG) → q.2.isSome = true → listed.getD i false = false) → chainG Ts (slotN ops a) S0 p w

theorem RelInvN.step {ops : Array Oper} {INV S0 : World → Prop} {a0 : Act} {Ts : List TG} {n : Nat} {listed : Array Bool} {a : Act} {w w' : World} (hok : RelOkN ops a0.tmps.size) (hl : Ts.length = n) (hn : n = ops.size) (hN : ∀ (i : Nat) (o : Oper) (T : TG), ops[i]? = some o → Ts[i]? = some T → o.dst = none → NoVal T) (hch : chainGok ops Ts)
    (I : RelInvN ops INV S0 a0 Ts listed a w) {i : Nat} {o : Oper} {T : TG} {v : Value} (ho : ops[i]? = some o) (hTi : Ts[i]? = some T) (hin : i < n) (hr : ∀ e ∈ o.after, Region.binds .any e = true → listed.getD e.on false = true) (hni : listed.getD i false = false)
    (hI : INV w') {FR : World → World → Prop} (hFR : FR w w') (hKF : ∀ p, (Sum.inr p : TG) ∈ Ts → KeepsF FR p.1) (hv : ttHolds (tgT T) v w')
    (hS : match T with
      | .inl _ => ∀ p, chainG Ts (slotN ops a) S0 p w → chainG Ts (slotN ops a) S0 p w'
      | .inr q => match q.2 with
        | none => ∀ p, chainG Ts (slotN ops a) S0 p w → chainG Ts (slotN ops a) S0 p w'
        | some S => S v w') : RelInvN ops INV S0 a0 Ts (listed.setIfInBounds i true) (a.put o.dst v) w' := by
  have his : i < listed.size := by rw [I.hsz]; exact (Array.getElem?_eq_some_iff.1 ho).1
  have hdep : ∀ j, depB (rmasks ops.toList []) i j = true → j ≠ i → listed.getD j false = true := by
    intro j hd hji
    have := dep_closed (ops := ops) (S := fun k => listed.getD k false = true ∨ k = i) (fun k o' ho' hk' e he hb => by
      rcases hk' with hk' | rfl
      · exact .inl (I.hcl k o' ho' hk' e he hb)
      · rw [ho] at ho'; cases ho'; exact .inl (hr e he hb)) (.inr rfl) hd
    exact this.resolve_right hji
  have hsv : ∀ j, j ≠ i → j < n → slotN ops (a.put o.dst v) j = slotN ops a j := by
    intro j hji hjn
    obtain ⟨o', ho'⟩ : ∃ o', ops[j]? = some o' := ⟨_, Array.getElem?_eq_getElem (by omega)⟩
    cases hd' : o'.dst with
    | none => rw [slotN_none ho' hd', slotN_none ho' hd']
    | some t' =>
      rw [slotN_some ho' hd', slotN_some ho' hd', Array.getD_eq_getD_getElem?, Array.getD_eq_getD_getElem?]
      rw [put_get_ne _ _ _ _ (fun e => (hok.dst j o' ho' t' hd').2 i o ho (fun e => hji e.symm) e)]
  have hsi : ∀ t, o.dst = some t → slotN ops (a.put o.dst v) i = v := by
    intro t hd
    have ht := (hok.dst i o ho t hd).1
    rw [slotN_some ho hd, Array.getD_eq_getD_getElem?, hd, put_get _ _ _ (by rw [I.hs]; exact ht)]; rfl
  have hsn : o.dst = none → slotN ops (a.put o.dst v) i = undef := fun hd => slotN_none ho hd
  refine ⟨hI, by cases hd : o.dst <;> exact I.hd, by cases hd : o.dst <;> simpa [Act.put] using I.hs, by simpa using I.hsz, ?_, ?_, ?_, ?_⟩
  · intro k o' ho' hk' e he hbd
    simp only [getD_set _ _ _ his] at hk' ⊢
    by_cases hki : k = i
    · subst hki
      rw [ho] at ho'; cases ho'
      rw [hr e he hbd]; split <;> rfl
    · rw [if_neg hki] at hk'
      have := I.hcl k o' ho' hk' e he hbd
      split
      · rfl
      · exact this
  · intro j o' T' ho' hT' hl
    rw [getD_set _ _ _ his] at hl
    by_cases hji : j = i
    · subst hji
      rw [ho] at ho'; cases ho'
      rw [hTi] at hT'; cases hT'
      cases hd : o.dst with
      | some t =>
        have := hsi t hd
        rw [hd] at this
        rw [this]; exact hv
      | none =>
        have hnv := hN j o T ho hTi hd
        cases T with
        | inl c => exact hnv.elim
        | inr q => exact hnv.1 _ _
    · rw [if_neg hji] at hl
      have hjn : j < n := by have := (Array.getElem?_eq_some_iff.1 ho').1; omega
      have h1 := I.hT j o' T' ho' hT' hl
      rw [hsv j hji hjn]
      cases T' with
      | inl c => exact h1
      | inr q => exact hKF q (List.mem_of_getElem? hT') _ _ _ h1 hFR
  · intro t' ht'
    rw [put_get_ne _ _ _ _ (ht' i o ho (by rw [getD_set _ _ _ his, if_pos rfl]))]
    exact I.h0 t' fun j o' ho' hl => ht' j o' ho' (by
      rw [getD_set _ _ _ his]
      split
      · rfl
      · exact hl)
  · intro p h1 h2
    simp only [getD_set _ _ _ his] at h1 h2
    have calm : (∀ q, Ts[i]? = some (Sum.inr q : TG) → q.2 = none) → (∀ p, chainG Ts (slotN ops a) S0 p w → chainG Ts (slotN ops a) S0 p w') → chainG Ts (slotN ops (a.put o.dst v)) S0 p w' := fun hno hS => by
      have hne : ∀ j q, Ts[j]? = some (Sum.inr q : TG) → q.2.isSome = true → j ≠ i := fun j q hj hq e => by
        subst e
        rw [hno q hj] at hq; cases hq
      rw [chainG_congr Ts (slotN ops (a.put o.dst v)) (slotN ops a) S0 p (fun j q hj hq hs => hsv j (hne j q hq hs) (by have := (List.getElem?_eq_some_iff.1 hq).1; omega))]
      refine hS p (I.hS p (fun j q hj hq hs => ?_) (fun j q hj hq hs => ?_))
      · have := h1 j q hj hq hs; rwa [if_neg (hne j q hq hs)] at this
      · have := h2 j q hj hq hs; rwa [if_neg (hne j q hq hs)] at this
    cases T with
    | inl c => exact calm (fun q hq => by rw [hTi] at hq; cases hq) hS
    | inr q =>
      cases hq2 : q.2 with
      | none =>
        refine calm (fun q' hq' => by rw [hTi] at hq'; cases hq'; exact hq2) ?_
        simp only [hq2] at hS
        exact hS
      | some S' =>
        simp only [hq2] at hS
        have hqs : q.2.isSome = true := by rw [hq2]; rfl
        have hip : i < p := by
          rcases Nat.lt_or_ge i p with h | h
          · exact h
          · have := h2 i q h hTi hqs; simp at this
        obtain ⟨d, rfl⟩ : ∃ d, p = i + 1 + d := ⟨p - (i + 1), by omega⟩
        rw [chainG_skip Ts _ S0 (i + 1) d (fun j r hj1 hj2 hr2 => by
          cases hr3 : r.2 with
          | none => rfl
          | some _ =>
            have hrs : r.2.isSome = true := by rw [hr3]; rfl
            have h3 := h1 j r hj2 hr2 hrs
            rw [if_neg (by omega)] at h3
            have h4 := dep_closed I.hcl h3 (hch i j q r (by omega) hTi hr2 hqs hrs)
            rw [hni] at h4; cases h4), chainG_at Ts _ S0 i q S' hTi hq2]
        cases hd : o.dst with
        | some t => have := hsi t hd; rw [hd] at this; rw [this]; exact hS
        | none =>
          have hnv := (hN i o _ ho hTi hd).2
          rw [hq2] at hnv
          have hc : ∀ v, S' v = S' undef := hnv
          rw [hc _, ← hc v]; exact hS

theorem relFrontN {P : Program} {ops : Array Oper} {n : Nat} {Q : Exit → Act → World → Prop} {INV S0 : World → Prop} {FR : World → World → Prop} (hFR : ∀ w w', Below w.heap.size w w' → FR w w') {a0 : Act} {Ts : List TG} (hok : RelOkN ops a0.tmps.size) (hl : Ts.length = n) (hn : n = ops.size) (hN : ∀ (i : Nat) (o : Oper) (T : TG), ops[i]? = some o → Ts[i]? = some T → o.dst = none → NoVal T) (hch : chainGok ops Ts) (hS0 : KeepsV S0)
    (hw : relWalkG P ops INV FR (fun a w => wpList P ops Q (ops.toList.drop n) a w) (ops.toList.take n) Ts a0 [] S0) :
    ∀ (fuel : Nat) (listed : Array Bool) (a : Act) (w : World), RelInvN ops INV S0 a0 Ts listed a w → unl listed ops.size = fuel → wpAny P .any ops Q fuel listed a w := by
  have hlen : (ops.toList.take n).length = Ts.length := by rw [hl]; simp; omega
  have hk := fun vs k => chainG_keeps _ _ _ _ _ vs hlen hw hS0 k
  have hKF := relWalk_keepsG _ _ _ _ _ hlen hw
  have hTs : ∀ i, i < n → ∃ T, Ts[i]? = some T := fun i hi => ⟨_, List.getElem?_eq_getElem (by omega)⟩
  have hos : ∀ i (o : Oper), i < n → ((ops.toList.take n)[i]? = some o ↔ ops[i]? = some o) := fun i o hi => by simp [List.getElem?_take, hi]
  -- a frame in which each of the first k slots holds what was left in it
  have same : ∀ (k : Nat) (listed : Array Bool) (a : Act) (w : World), RelInvN ops INV S0 a0 Ts listed a w → k ≤ n → ∀ t,
      (∀ (j : Nat) (o : Oper), j < k → ops[j]? = some o → o.dst = some t → listed.getD j false = true) → (∀ (j : Nat) (o : Oper), k ≤ j → ops[j]? = some o → o.dst = some t → listed.getD j false = false) →
      a.tmps[t]? = (lexA (ops.toList.take n) (Ts.map tgT) (slotN ops a) k a0).tmps[t]? := by
    intro k listed a w I hkn t h1 h2
    by_cases hex : ∃ (j : Nat) (o : Oper), j < k ∧ ops[j]? = some o ∧ o.dst = some t
    · obtain ⟨j, o, hj, ho, hd⟩ := hex
      obtain ⟨T, hT⟩ := hTs j (by omega)
      obtain ⟨ht', hu⟩ := hok.dst j o ho t hd
      rw [lexA_get _ _ _ k a0 t j o (tgT T) hj ((hos j o (by omega)).2 ho) (by rw [List.getElem?_map, hT]; rfl) hd ht' (fun i o' hi hik ho' => hu i o' ((hos i o' (by omega)).1 ho') (by omega))]
      have h3 := I.hT j o T ho hT (h1 j o hj ho hd)
      rw [slotN_some ho hd] at h3
      have h4 : a.tmps[t]? = some (a.tmps.getD t undef) := by
        rw [Array.getD_eq_getD_getElem?, Array.getElem?_eq_getElem (by rw [I.hs]; exact ht')]; rfl
      rw [h4, slotN_some ho hd]
      cases T with
      | inl c => exact congrArg some h3
      | inr F => rfl
    · rw [lexA_ne _ _ _ k a0 t (fun j o hj ho hd => hex ⟨j, o, hj, (hos j o (by omega)).1 ho, hd⟩)]
      refine I.h0 t fun j o ho hlj hd => ?_
      rcases Nat.lt_or_ge j k with h | h
      · exact hex ⟨j, o, h, ho, hd⟩
      · rw [h2 j o h ho hd] at hlj; cases hlj
  have full : ∀ (fuel : Nat) (listed : Array Bool) (a : Act) (w : World), RelInvN ops INV S0 a0 Ts listed a w → unl listed ops.size = fuel → (∀ i, i < n → listed.getD i false = true) → wpAny P .any ops Q fuel listed a w := by
    intro fuel listed a w I hf hall
    have hfu : 0 = fuel := by
      rw [← hf]
      unfold unl
      symm
      rw [List.length_eq_zero_iff, List.filter_eq_nil_iff]
      intro i hi
      rw [hall i (by simp at hi; omega)]; decide
    rw [← hfu]
    have hrd : Region.ready .any ops listed = [] := by
      unfold Region.ready
      rw [List.filter_eq_nil_iff]
      intro i hi
      have hi' : i < ops.size := by simpa using hi
      have := hall i (by omega)
      have e : listed.getD i true = true := by
        rw [Array.getD_eq_getD_getElem?, Array.getElem?_eq_getElem (by rw [I.hsz]; exact hi')] at this ⊢; simpa using this
      rw [e]; simp
    refine ⟨hrd, ?_⟩
    have hnil : wpList P ops Q (ops.toList.drop n) a w := by
      skip
      have he := relWalk_endG (ops.toList.take n) Ts a0 [] S0 (slotN ops a) hlen hw w I.hb (I.hS _ (fun i q hi hq _ => hall i (by have := (List.getElem?_eq_some_iff.1 hq).1; omega)) (fun i q hi hq _ => by have := (List.getElem?_eq_some_iff.1 hq).1; omega)) (by simp) (fun j F hF => by
        have hj : j < n := by have := (List.getElem?_eq_some_iff.1 hF).1; omega
        obtain ⟨o, ho⟩ : ∃ o, ops[j]? = some o := ⟨_, Array.getElem?_eq_getElem (by omega)⟩
        exact I.hT j o _ ho hF (hall j hj))
      have hA : a = lexA (ops.toList.take n) (Ts.map tgT) (slotN ops a) (ops.toList.take n).length a0 := by
        rw [hlen, hl]
        have h1 : a.tmps = (lexA (ops.toList.take n) (Ts.map tgT) (slotN ops a) n a0).tmps := by
          apply Array.ext'
          apply List.ext_getElem?
          intro t
          rw [Array.getElem?_toList, Array.getElem?_toList]
          exact same n listed a w I (Nat.le_refl _) t (fun j o hj _ _ => hall j hj) (fun j o hj ho _ => by have := (Array.getElem?_eq_some_iff.1 ho).1; omega)
        have h2 := lexA_defers (ops.toList.take n) (Ts.map tgT) (slotN ops a) n a0
        cases a with
        | mk tm df =>
          cases hx : lexA (ops.toList.take n) (Ts.map tgT) (slotN ops (Act.mk tm df)) n a0 with
          | mk tm' df' =>
            rw [hx] at h1 h2
            have h3 := I.hd
            simp only at h1 h2 h3
            rw [h1, h3, h2]
      rw [← hA] at he
      exact he
    rw [List.drop_of_length_le (by simp; omega)] at hnil
    exact hnil
  intro fuel
  induction fuel with
  | zero =>
    intro listed a w I hf
    refine full 0 listed a w I hf fun i hi => ?_
    cases h : listed.getD i false with
    | true => rfl
    | false =>
      exfalso
      have : i ∈ (List.range ops.size).filter (fun i => !listed.getD i false) := by
        simp only [List.mem_filter, List.mem_range]
        exact ⟨by omega, by rw [h]; rfl⟩
      unfold unl at hf
      rw [List.length_eq_zero_iff.1 hf] at this
      simp at this
  | succ fuel ih =>
    intro listed a w I hf
    by_cases hall : ∀ i, i < n → listed.getD i false = true
    · exact full (fuel + 1) listed a w I hf hall
    · have hex : ∃ k, k < n ∧ listed.getD k false = false ∧ ∀ j, j < k → listed.getD j false = true := by
        have : ∃ k, k < n ∧ listed.getD k false = false := by
          apply Classical.byContradiction
          intro hne
          apply hall
          intro i hi
          cases h : listed.getD i false with
          | true => rfl
          | false => exact absurd ⟨i, hi, h⟩ hne
        obtain ⟨k, hk1, hk2⟩ := this
        induction k using Nat.strongRecOn with
        | ind k ihk =>
          by_cases hj : ∀ j, j < k → listed.getD j false = true
          · exact ⟨k, hk1, hk2, hj⟩
          · obtain ⟨j, hj1, hj2⟩ : ∃ j, j < k ∧ listed.getD j false = false := by
              apply Classical.byContradiction
              intro hne
              apply hj
              intro j hjk
              cases h : listed.getD j false with
              | true => rfl
              | false => exact absurd ⟨j, hjk, h⟩ hne
            exact ihk j hj1 (by omega) hj2
      obtain ⟨k, hkn, hkl, hkm⟩ := hex
      have rdy : ∀ i, i ∈ Region.ready .any ops listed ↔ i < ops.size ∧ listed.getD i false = false ∧ ∀ (o : Oper), ops[i]? = some o → ∀ e ∈ o.after, Region.binds .any e = true → listed.getD e.on false = true := by
        intro i
        unfold Region.ready
        simp only [List.mem_filter, List.mem_range, Bool.and_eq_true, Bool.not_eq_true']
        constructor
        · rintro ⟨h1, h2, h3⟩
          refine ⟨h1, ?_, fun o ho e he hb => ?_⟩
          · rw [Array.getD_eq_getD_getElem?, Array.getElem?_eq_getElem (by rw [I.hsz]; exact h1)] at h2 ⊢; exact h2
          · rw [ho] at h3
            simp only [Option.map_some, Option.getD_some, Array.all_eq_true_iff_forall_mem, Bool.or_eq_true, Bool.not_eq_true'] at h3
            rcases h3 e he with h | h
            · rw [hb] at h; cases h
            · exact h
        · rintro ⟨h1, h2, h3⟩
          refine ⟨h1, ?_, ?_⟩
          · rw [Array.getD_eq_getD_getElem?, Array.getElem?_eq_getElem (by rw [I.hsz]; exact h1)] at h2 ⊢; exact h2
          · rw [Array.getElem?_eq_getElem h1]
            simp only [Option.map_some, Option.getD_some, Array.all_eq_true_iff_forall_mem, Bool.or_eq_true, Bool.not_eq_true']
            intro e he
            cases hb : Region.binds .any e with
            | false => exact .inl rfl
            | true => exact .inr (h3 _ (Array.getElem?_eq_getElem h1) e he hb)
      refine ⟨fun hr => ?_, fun i hi => ?_⟩
      · exfalso
        have : k ∈ Region.ready .any ops listed := (rdy k).2 ⟨by omega, hkl, fun o ho e he hb => hkm _ (hok.early k o ho e he hb)⟩
        rw [hr] at this
        simp at this
      · obtain ⟨hi1, hi2, hi3⟩ := (rdy i).1 hi
        obtain ⟨o, ho⟩ : ∃ o, ops[i]? = some o := ⟨_, Array.getElem?_eq_getElem hi1⟩
        have hdep : ∀ j, depB (rmasks ops.toList []) i j = true → j ≠ i → listed.getD j false = true := by
          intro j hd hji
          have := dep_closed (ops := ops) (S := fun k => listed.getD k false = true ∨ k = i) (fun k o' ho' hk' e he hb => by
            rcases hk' with hk' | rfl
            · exact .inl (I.hcl k o' ho' hk' e he hb)
            · exact .inl (hi3 o' ho' e he hb)) (.inr rfl) hd
          exact this.resolve_right hji
        have hin : i < n := by omega
        obtain ⟨T, hT⟩ := hTs i hin
        have hup : ∀ j, i < j → depB (rmasks ops.toList []) j i = true → listed.getD j false = false := by
          intro j hij hd
          cases h : listed.getD j false with
          | false => rfl
          | true => have h' : listed.getD i false = true := dep_closed I.hcl h hd; rw [hi2] at h'; cases h'
        have hsame : ∀ t ∈ o.looksAt ops, a.tmps[t]? = (lexA (ops.toList.take n) (Ts.map tgT) (slotN ops a) i a0).tmps[t]? := by
          intro t ht
          refine same i listed a w I (by omega) t (fun j o' hj ho' hd => ?_) (fun j o' hj ho' hd => ?_)
          · exact hdep j ((hok.looks i o ho t ht j o' ho' hd).1 hj) (by omega)
          · by_cases hji : j = i
            · rw [hji]; exact hi2
            · exact hup j (by omega) ((hok.looks i o ho t ht j o' ho' hd).2 (by omega))
        have hopI := fun c (hT : Ts[i]? = some (.inl c)) => relWalk_atV (ops.toList.take n) Ts a0 [] S0 (slotN ops a) i o c hw ((hos i o hin).2 ho) hT w I.hb (fun p hp => by simp at hp) (fun j o' F hj ho' hF hd => by
          have ho'' := (hos j o' (by omega)).1 ho'
          cases hd' : o'.dst with
          | none => exact (hN j o' _ ho'' hF hd').1 _ _
          | some t' =>
            rw [hd', Option.getD_some] at hd
            exact I.hT j o' _ ho'' hF (hdep j ((hok.looks i o ho t' hd j o' ho'' hd').1 hj) (by omega)))
        have hunl : unl (listed.setIfInBounds i true) ops.size = fuel := by
          have h1 := filter_one (fun j => !listed.getD j false) (fun j => !(listed.setIfInBounds i true).getD j false) i (by simp [hi2]) (by rw [getD_set _ _ _ (by rw [I.hsz]; exact hi1), if_pos rfl]; rfl) (fun j hj => by rw [getD_set _ _ _ (by rw [I.hsz]; exact hi1), if_neg hj]) ops.size hi1
          unfold unl at hf ⊢
          omega
        unfold wpOp
        rw [ho]
        simp only
        cases T with
        | inl c =>
          have hop := hopI c hT
          have hgo : ∀ v w', INV w' ∧ Below w.heap.size w w' → v = c → wpAny P .any ops Q fuel (listed.setIfInBounds i true) (a.put o.dst v) w' := fun v w' h1 h2 =>
            ih _ _ _ (I.step hok hl hn hN hch ho hT hin (hi3 o ho) hi2 h1.1 (hFR _ _ h1.2) hKF h2 (fun p hp => hk (slotN ops a) p w w' hp h1.2)) hunl
          unfold relOpV at hop
          rw [← wanted_congr hsame, ← eval_congr (ops := ops) (hok.nosel i o · · ho) hsame] at hop
          split
          · rename_i hwa
            rw [if_pos hwa] at hop
            refine .inl ?_
            unfold Oper.wp
            cases hrun : (execOp a.eval o).run P w with
            | halt h w' => rw [hrun] at hop; simp [relUponV] at hop
            | ok x w' =>
              rw [hrun] at hop
              cases x with
              | value v => exact hgo v w' hop.1 hop.2
              | enter f args =>
                obtain ⟨rfl, hc⟩ := hop
                refine hc.mono ?_
                rintro e w'' ⟨rfl, h1, h2⟩
                exact hgo _ w'' ⟨h1, h2⟩ rfl
              | _ => simp [relUponV] at hop
          · rename_i hwa
            rw [if_neg hwa] at hop
            exact hgo undef w ⟨I.hb, Below.refl _ _⟩ hop
        | inr q =>
          have hgo : ∀ v w', GiveG INV FR q w v w' → wpAny P .any ops Q fuel (listed.setIfInBounds i true) (a.put o.dst v) w' := fun v w' h => by
            obtain ⟨h1, h2, h3⟩ := h
            refine ih _ _ _ (I.step (FR := FR) hok hl hn hN hch ho hT hin (hi3 o ho) hi2 h1 ?_ hKF h2 ?_) hunl
            · cases hq2 : q.2 with
              | none => simp only [hq2] at h3; exact hFR _ _ h3
              | some S' => simp only [hq2] at h3; exact h3.1
            · cases hq2 : q.2 with
              | none => simp only [hq2] at h3 ⊢; exact fun p hp => hk (slotN ops a) p w w' hp h3
              | some S' => simp only [hq2] at h3 ⊢; exact h3.2
          have hop := relWalk_atG (ops.toList.take n) Ts a0 [] S0 (slotN ops a) i o q hw ((hos i o hin).2 ho) hT w I.hb (fun hqs => I.hS i (fun j r hj hr hrs => hdep j (hch j i r q hj hr hT hrs hqs) (by omega)) (fun j r hj hr hrs => by
            rcases Nat.lt_or_ge i j with h | h
            · exact hup j h (hch i j q r h hT hr hqs hrs)
            · have : j = i := by omega
              rw [this]; exact hi2)) (fun p hp => by simp at hp) (fun j o' F hj ho' hF hd => by
            have ho'' := (hos j o' (by omega)).1 ho'
            cases hd' : o'.dst with
            | none => exact (hN j o' _ ho'' hF hd').1 _ _
            | some t' =>
              rw [hd', Option.getD_some] at hd
              exact I.hT j o' _ ho'' hF (hdep j ((hok.looks i o ho t' hd j o' ho'' hd').1 hj) (by omega)))
          unfold relOpG at hop
          have hsame' : ∀ t ∈ o.looksAt ops, a.tmps[t]? = (lexA (ops.toList.take n) (Ts.map tgT) (slotN ops a) i a0).tmps[t]? := hsame
          rw [← wanted_congr hsame', ← eval_congr (ops := ops) (hok.nosel i o · · ho) hsame'] at hop
          split
          · rename_i hwa
            have hop := hop.2
            refine .inl ?_
            unfold Oper.wp
            cases hrun : (execOp a.eval o).run P w with
            | halt h w' => rw [hrun] at hop; simp [relUponG] at hop
            | ok x w' =>
              rw [hrun] at hop
              cases x with
              | value v => exact hgo v w' hop
              | enter f args =>
                obtain ⟨rfl, hc⟩ := hop
                refine hc.mono ?_
                rintro e w'' ⟨v, rfl, h1⟩
                exact hgo v w'' h1
              | skip => exact hgo undef w' hop
              | _ => simp [relUponG] at hop
          · rename_i hwa
            exact absurd hop.1 hwa

def noDst : List Oper → Nat → List Nat
  | [], _ => []
  | o :: os, k => if o.dst.isNone then k :: noDst os (k + 1) else noDst os (k + 1)
theorem noDst_mem : ∀ (l : List Oper) (k i : Nat) (o : Oper), l[i]? = some o → o.dst = none → k + i ∈ noDst l k
  | [], _, _, _, h, _ => by simp at h
  | x :: l, k, 0, o, h, hd => by
    simp only [List.getElem?_cons_zero, Option.some.injEq] at h
    subst h
    unfold noDst
    rw [if_pos (by rw [hd]; rfl)]
    exact List.mem_cons_self
  | x :: l, k, i + 1, o, h, hd => by
    have := noDst_mem l (k + 1) i o (by simpa using h) hd
    rw [show k + 1 + i = k + (i + 1) by omega] at this
    unfold noDst
    split
    · exact List.mem_cons_of_mem _ this
    · exact this
/-- no tail; what has no destination hangs on no value. -/
theorem wp_region_relN {P : Program} {id : Nat} {Q : Exit → Act → World → Prop} {a : Act} {w : World} {l : List Oper} (INV S0 : World → Prop) (FR : World → World → Prop) (n : Nat) (Ts : List TG) (pat : List Bool) (hm : P.follows .mixedOrders = true) (hB : relOkNB l.toArray a.tmps.size = true) (hC : chainGokB l.toArray pat = true) (hn : n = l.length) (hl : Ts.length = n) (hp : Ts.map isG = pat)
    (nd : List Nat) (hD : noDst l 0 = nd) (hN0 : ∀ i ∈ nd, ∀ T, Ts[i]? = some T → NoVal T)
    (hFR : ∀ w w', Below w.heap.size w w' → FR w w') (hS : KeepsV S0) (hI : INV w.drew) (hS0 : S0 w.drew)
    (h : relWalkG P l.toArray INV FR (fun a' w' => wpList P l.toArray Q (l.drop n) a' w') (l.take n) Ts a [] S0) : (Code.region id l.toArray true).wp P Q a w := by
  have hok := relOkN_of hB
  have hN : ∀ (i : Nat) (o : Oper) (T : TG), l.toArray[i]? = some o → Ts[i]? = some T → o.dst = none → NoVal T := fun i o T ho hT hd => hN0 i (by
    rw [← hD]
    have := noDst_mem l 0 i o (by simpa using ho) hd
    rwa [Nat.zero_add] at this) T hT
  refine wp_region_any hm (relFrontN (INV := INV) (S0 := S0) (a0 := a) hFR hok hl (by simpa using hn) hN (chainGok_of hp hC) hS h _ _ a w.drew ⟨hI, rfl, rfl, by simp, ?_, ?_, ?_, ?_⟩ ?_)
  · intro k o ho hk
    exfalso
    simp only [Array.getD_eq_getD_getElem?] at hk
    by_cases h : k < l.length <;> simp [h] at hk
  · intro i o T ho hT hk
    exfalso
    rw [Array.getD_eq_getD_getElem?] at hk
    by_cases h : i < l.length <;> simp [h] at hk
  · intro t _; rfl
  · intro p h1 _
    have : chainG Ts (slotN l.toArray a) S0 p = S0 := by
      have := chainG_skip Ts (slotN l.toArray a) S0 0 p (fun j q _ hj hq => by
        cases hq2 : q.2 with
        | none => rfl
        | some _ => ?_
        exfalso
        have := h1 j q (by omega) hq (by rw [hq2]; rfl)
        rw [Array.getD_eq_getD_getElem?] at this
        by_cases h : j < l.length <;> simp [h] at this)
      rw [Nat.zero_add] at this
      exact this
    rw [this]; exact hS0
  · unfold unl
    rw [List.filter_congr (q := fun _ => true) (fun i hi => by
      rw [Array.getD_eq_getD_getElem?]
      by_cases h : i < l.length <;> simp [h]), List.filter_eq_self.2 (fun _ _ => rfl)]
    simp
end Go.Proofs.YtegekaocbalndaaGreatDoor
end
