import Derived.Test.YtkdkpnidiehdfaaDoorRel
set_option linter.unusedSimpArgs false
set_option linter.unusedVariables false
namespace Go.Proofs.YtkdkpnidiehdfaaDoor
open Go.RowKit

/-- what a region must be: see XRel. 'n' operations in front, the rest forced; 'sz' slots. -/
def depB (m : List Nat) (k j : Nat) : Bool := (m.getD k 0).testBit j
def relFrontB (ops : Array Oper) (m : List Nat) (n sz k : Nat) (o : Oper) : Bool :=
  (match o.dst with | some t => decide (t < sz) && (List.range ops.size).all (fun j => j == k || (ops[j]?).bind (·.dst) != some t) | none => false) &&
  (o.looksAt ops).all fun t => (List.range ops.size).all fun j => (ops[j]?).bind (·.dst) != some t || (if j < k then depB m k j else (j == k || depB m j k))
def relOkB (ops : Array Oper) (n sz : Nat) : Bool :=
  let m := rmasks ops.toList []
  decide (n ≤ ops.size) && Region.noSelect ops &&
  (List.range ops.size).all fun k => match ops[k]? with
    | none => false
    | some o => o.after.all (fun e => decide (e.on < k)) && (if k < n then relFrontB ops m n sz k o else (List.range k).all (fun j => depB m k j))

structure RelOk (ops : Array Oper) (n sz : Nat) : Prop where
  le : n ≤ ops.size
  nosel : ∀ (j : Nat) (o : Oper) cs b, ops[j]? = some o → o.op ≠ .select cs b
  early : ∀ (k : Nat) (o : Oper), ops[k]? = some o → ∀ e ∈ o.after, e.on < k
  dst : ∀ (k : Nat) (o : Oper), ops[k]? = some o → k < n → ∃ t, o.dst = some t ∧ t < sz ∧ ∀ (j : Nat) (o' : Oper), ops[j]? = some o' → j ≠ k → o'.dst ≠ some t
  looks : ∀ (k : Nat) (o : Oper), ops[k]? = some o → k < n → ∀ t ∈ o.looksAt ops, ∀ (j : Nat) (o' : Oper), ops[j]? = some o' → o'.dst = some t → (j < k → depB (rmasks ops.toList []) k j = true) ∧ (k < j → depB (rmasks ops.toList []) j k = true)
  tail : ∀ (k : Nat) (o : Oper), ops[k]? = some o → n ≤ k → ∀ j, j < k → depB (rmasks ops.toList []) k j = true
theorem relOk_of {ops : Array Oper} {n sz : Nat} (h : relOkB ops n sz = true) : RelOk ops n sz := by
  simp only [relOkB, Bool.and_eq_true, decide_eq_true_eq, List.all_eq_true, List.mem_range] at h
  obtain ⟨⟨h1, h2⟩, h3⟩ := h
  have key : ∀ (k : Nat) (o : Oper), ops[k]? = some o → o.after.all (fun e => decide (e.on < k)) = true ∧ (if k < n then relFrontB ops (rmasks ops.toList []) n sz k o else (List.range k).all (fun j => depB (rmasks ops.toList []) k j)) = true := by
    intro k o ho
    have := h3 k (Array.getElem?_eq_some_iff.1 ho).1
    rw [ho] at this
    simpa using this
  refine ⟨h1, Region.noSelect_spec h2, ?_, ?_, ?_, ?_⟩
  · intro k o ho e he
    have := (key k o ho).1
    simp only [Array.all_eq_true_iff_forall_mem, decide_eq_true_eq] at this
    exact this e he
  · intro k o ho hk
    have := (key k o ho).2
    rw [if_pos hk] at this
    simp only [relFrontB, Bool.and_eq_true] at this
    obtain ⟨h4, _⟩ := this
    cases hd : o.dst with
    | none => rw [hd] at h4; simp at h4
    | some t =>
      rw [hd] at h4
      simp only [Bool.and_eq_true, decide_eq_true_eq, List.all_eq_true, List.mem_range, Bool.or_eq_true, beq_iff_eq, bne_iff_ne] at h4
      refine ⟨t, rfl, h4.1, fun j o' ho' hjk => ?_⟩
      have := h4.2 j (Array.getElem?_eq_some_iff.1 ho').1
      rw [ho'] at this
      simpa [hjk] using this
  · intro k o ho hk t ht j o' ho' hd
    have := (key k o ho).2
    rw [if_pos hk] at this
    simp only [relFrontB, Bool.and_eq_true, List.all_eq_true, List.mem_range] at this
    have h5 := this.2 t ht j (Array.getElem?_eq_some_iff.1 ho').1
    rw [ho'] at h5
    simp [hd] at h5
    constructor
    · intro hjk; simpa [hjk] using h5
    · intro hkj
      have h1 : ¬ j < k := by omega
      have h2 : ¬ j = k := by omega
      simpa [h1, h2] using h5
  · intro k o ho hk j hj
    have := (key k o ho).2
    rw [if_neg (by omega)] at this
    simp only [List.all_eq_true, List.mem_range] at this
    exact this j hj

def relClosed (ops : Array Oper) (S : Nat → Prop) : Prop := ∀ (k : Nat) (o : Oper), ops[k]? = some o → S k → ∀ e ∈ o.after, Region.binds .any e = true → S e.on
theorem dep_closed {ops : Array Oper} {S : Nat → Prop} (h : relClosed ops S) {k j : Nat} (hk : S k) (hd : depB (rmasks ops.toList []) k j = true) : S j :=
  rmasks_spec (S := S) ops.toList [] ops.toList (by simp) (by simp) (fun k o ho => h k o (by simpa using ho)) (fun i _ j h => by simp at h) k hk j hd

/-- the tail goes in one order. -/
theorem relTail {P : Program} {ops : Array Oper} {n sz : Nat} {Q : Exit → Act → World → Prop} (hok : RelOk ops n sz) : ∀ (l : List Oper) (m : Nat) (listed : Array Bool) (a : Act) (w : World), n ≤ m → m + l.length = ops.size → l = ops.toList.drop m →
    listed.size = ops.size → (∀ i, i < ops.size → (listed.getD i false = true ↔ i < m)) → wpList P ops Q l a w → wpAny P .any ops Q l.length listed a w := by
  intro l
  induction l with
  | nil =>
    intro m listed a w hm hs hl hsz hL h
    refine ⟨?_, h⟩
    unfold Region.ready
    rw [List.filter_eq_nil_iff]
    intro i hi
    have hi' : i < ops.size := by simpa using hi
    have := (hL i hi').2 (by simp at hs; omega)
    have e : listed.getD i true = true := by
      rw [Array.getD_eq_getD_getElem?, Array.getElem?_eq_getElem (by omega)] at this ⊢; simpa using this
    rw [e]; simp
  | cons o l ih =>
    intro m listed a w hm hs hl hsz hL h
    simp only [List.length_cons] at hs
    have hmlt : m < ops.size := by omega
    have ho : ops[m]? = some o := by
      have := congrArg (·[0]?) hl
      simpa using this.symm
    have hl' : l = ops.toList.drop (m + 1) := by
      have := congrArg List.tail hl
      simpa using this
    have hready : ∀ i ∈ Region.ready .any ops listed, i = m := by
      intro i hi
      unfold Region.ready at hi
      simp only [List.mem_filter, List.mem_range, Bool.and_eq_true, Bool.not_eq_true'] at hi
      obtain ⟨hi1, hi2, hi3⟩ := hi
      obtain ⟨oi, hoi⟩ : ∃ oi, ops[i]? = some oi := ⟨_, Array.getElem?_eq_getElem hi1⟩
      rw [hoi] at hi3
      simp only [Option.map_some, Option.getD_some, Array.all_eq_true_iff_forall_mem, Bool.or_eq_true, Bool.not_eq_true'] at hi3
      have hnl : ¬ i < m := fun h' => by
        have := (hL i hi1).2 h'
        rw [Array.getD_eq_getD_getElem?, Array.getElem?_eq_getElem (by omega)] at this hi2
        simp at this hi2; rw [this] at hi2; cases hi2
      by_cases him : i = m
      · exact him
      · exfalso
        have hd := hok.tail i oi hoi (by omega) m (by omega)
        have := dep_closed (ops := ops) (S := fun k => k < m ∨ k = i) (fun k o' ho' hk e he hb => by
          rcases hk with hk | rfl
          · exact .inl (Nat.lt_trans (hok.early k o' ho' e he) hk)
          · rw [hoi] at ho'; cases ho'
            rcases hi3 e he with h' | h'
            · rw [hb] at h'; cases h'
            · exact .inl ((hL e.on (Nat.lt_trans (hok.early _ _ hoi e he) hi1)).1 h')) (.inr rfl) hd
        omega
    refine ⟨?_, ?_⟩
    · intro hr
      exfalso
      have : m ∈ Region.ready .any ops listed := by
        unfold Region.ready
        simp only [List.mem_filter, List.mem_range, Bool.and_eq_true, Bool.not_eq_true']
        refine ⟨hmlt, ?_, ?_⟩
        · have : ¬ (listed.getD m false = true) := fun h' => by have := (hL m hmlt).1 h'; omega
          rw [Array.getD_eq_getD_getElem?, Array.getElem?_eq_getElem (by omega)] at this ⊢
          simpa using this
        · rw [ho]
          simp only [Option.map_some, Option.getD_some, Array.all_eq_true_iff_forall_mem, Bool.or_eq_true]
          intro e he
          have h1 := hok.early m o ho e he
          exact .inr ((hL e.on (by omega)).2 h1)
      rw [hr] at this
      simp at this
    · intro i hi
      obtain rfl := hready i hi
      have hstep : ∀ a w, wpList P ops Q l a w → wpAny P .any ops Q l.length (listed.setIfInBounds i true) a w := fun a w h' =>
        ih (i + 1) (listed.setIfInBounds i true) a w (by omega) (by omega) hl' (by simpa using hsz) (fun j hj => by
          have h0 := hL j hj
          rw [Array.getD_eq_getD_getElem?] at h0 ⊢
          by_cases hji : j = i
          · subst hji
            rw [Array.getElem?_setIfInBounds_self_of_lt (by omega)]; simp
          · rw [Array.getElem?_setIfInBounds_ne (fun e => hji e.symm), h0]; omega) h'
      unfold wpOp
      rw [ho]
      simp only
      unfold wpList at h
      split
      · rename_i hw
        rw [if_pos hw] at h
        exact h.imp (Oper.wp_mono hstep) id
      · rename_i hw
        rw [if_neg hw] at h
        exact hstep _ _ h
end Go.Proofs.YtkdkpnidiehdfaaDoor
