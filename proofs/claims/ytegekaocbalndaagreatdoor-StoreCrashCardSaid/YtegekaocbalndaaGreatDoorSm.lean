/- drawn regions as in XSl; besides, some copies of what the region does not write need not be waited for. -/
import Derived.Test.YtegekaocbalndaaGreatDoorSg
set_option linter.unusedSimpArgs false
set_option linter.unusedVariables false
namespace Go.Proofs.YtegekaocbalndaaGreatDoor
open Go.RowKit

/-- a copy of what no operation of the region writes: it may go first. -/
def hoistB (ops : Array Oper) (o : Oper) (k : Nat) : Bool :=
  o.guard.isNone && (match o.op with | .move _ => true | _ => false) &&
  (List.range ops.size).all fun j => j == k || match ops[j]? with | some oj => (oj.after.any fun e => e.on == k && Region.binds .any e) || o.apart ops oj | none => true
/-- what yields one value whatever the world. -/
def pureB (o : Oper) : Bool := o.guard.isNone && match o.op with | .move _ | .assign _ | .extract _ _ => true | _ => false
/-- it comes next, or may. -/
def soloB (ops : Array Oper) (m : List Nat) (k : Nat) (o : Oper) : Bool :=
  ((List.range ops.size).all fun j => decide (j ≤ k) || depB m j k) ||
  (pureB o && (List.range ops.size).all fun j => decide (j ≤ k) || match ops[j]? with | some oj => (oj.after.any fun e => e.on == k && Region.binds .any e) || o.apart ops oj | none => true)
theorem pure_yields {P : Program} {ops : Array Oper} {o : Oper} {a : Act} {Q : Exit → Act → World → Prop} {rest : List Oper} {w : World} (hp : pureB o = true) (h : wpList P ops Q (o :: rest) a w) : ∃ v, Yields P ops o v a ∧ wpList P ops Q rest (a.put o.dst v) w := by
  simp only [pureB, Bool.and_eq_true] at hp
  obtain ⟨hg, hop⟩ := hp
  have hgn : o.guard = none := by simpa using hg
  have hw : Region.wanted o (yielded ops a.tmps) = true := by unfold Region.wanted; rw [hgn]
  unfold wpList at h
  rw [if_pos hw] at h
  cases ho : o.op with
  | move x =>
    have hr : ∀ W, (execOp a.eval o).run P W = .ok (.value (a.eval x)) W := fun W => by unfold execOp; rw [ho]; rfl
    refine ⟨a.eval x, .inl ⟨hw, hr⟩, ?_⟩
    rcases h with h | ⟨h, _⟩
    · unfold Oper.wp at h; rw [hr] at h; exact h
    · have e : ((execOp a.eval o).runT P w #[]).2 = #[] := by unfold execOp; rw [ho]; rfl
      rw [Oper.asks, e] at h; simp at h
  | assign x =>
    have hr : ∀ W, (execOp a.eval o).run P W = .ok (.value (a.eval x)) W := fun W => by unfold execOp; rw [ho]; rfl
    refine ⟨a.eval x, .inl ⟨hw, hr⟩, ?_⟩
    rcases h with h | ⟨h, _⟩
    · unfold Oper.wp at h; rw [hr] at h; exact h
    · have e : ((execOp a.eval o).runT P w #[]).2 = #[] := by unfold execOp; rw [ho]; rfl
      rw [Oper.asks, e] at h; simp at h
  | extract x i =>
    have hrun : ∀ W, (execOp a.eval o).run P W = ((Instr.extract (a.eval x) i).run P W).andThen fun v W => .ok (.value v) W := fun W => by unfold execOp; rw [ho]; simp [Sem.run_bind]
    rcases h with h | ⟨h, _⟩
    · unfold Oper.wp at h
      rw [hrun] at h
      cases hx : a.eval x with
      | tuple vs =>
        cases hv : vs[i]? with
        | some v =>
          have hr : ∀ W, (execOp a.eval o).run P W = .ok (.value v) W := fun W => by rw [hrun, hx]; unfold Instr.extract; simp only [hv]; rfl
          rw [← hrun, hr] at h
          exact ⟨v, .inl ⟨hw, hr⟩, h⟩
        | none => rw [hx] at h; unfold Instr.extract at h; simp only [hv] at h; exact h.elim
      | _ => rw [hx] at h; exact h.elim
    · have e : ((execOp a.eval o).runT P w #[]).2 = #[] := by
        unfold execOp; rw [ho]
        cases hx : a.eval x with
        | tuple vs => cases hv : vs[i]? <;> simp only [hx, Instr.extract, hv] <;> rfl
        | _ => simp only [hx, Instr.extract] <;> rfl
      rw [Oper.asks, e] at h; simp at h
  | _ => rw [ho] at hop; cases hop
def relOkHB (H : List Nat) (ops : Array Oper) (n sz : Nat) : Bool :=
  let m := rmasks ops.toList []
  decide (n ≤ ops.size) && Region.noSelect ops &&
  (List.range ops.size).all fun k => match ops[k]? with
    | none => false
    | some o => o.after.all (fun e => decide (e.on < k) || !Region.binds .any e) && (if k < n then relFrontB ops m n sz k o && (!H.contains k || hoistB ops o k) else !H.contains k && (List.range n).all (fun j => H.contains j || depB m k j) && soloB ops m k o)

structure RelOkH (H : List Nat) (ops : Array Oper) (n sz : Nat) : Prop where
  le : n ≤ ops.size
  nosel : ∀ (j : Nat) (o : Oper) cs b, ops[j]? = some o → o.op ≠ .select cs b
  early : ∀ (k : Nat) (o : Oper), ops[k]? = some o → ∀ e ∈ o.after, Region.binds .any e = true → e.on < k
  dst : ∀ (k : Nat) (o : Oper), ops[k]? = some o → k < n → ∃ t, o.dst = some t ∧ t < sz ∧ ∀ (j : Nat) (o' : Oper), ops[j]? = some o' → j ≠ k → o'.dst ≠ some t
  looks : ∀ (k : Nat) (o : Oper), ops[k]? = some o → k < n → ∀ t ∈ o.looksAt ops, ∀ (j : Nat) (o' : Oper), ops[j]? = some o' → o'.dst = some t → (j < k → depB (rmasks ops.toList []) k j = true) ∧ (k < j → depB (rmasks ops.toList []) j k = true)
  tail : ∀ (k : Nat) (o : Oper), ops[k]? = some o → n ≤ k → (k ∉ H ∧ ∀ j, j < n → j ∈ H ∨ depB (rmasks ops.toList []) k j = true) ∧ soloB ops (rmasks ops.toList []) k o = true
  hoist : ∀ (k : Nat) (o : Oper), ops[k]? = some o → k ∈ H → k < n → hoistB ops o k = true
theorem relOkH_of {H : List Nat} {ops : Array Oper} {n sz : Nat} (h : relOkHB H ops n sz = true) : RelOkH H ops n sz := by
  simp only [relOkHB, Bool.and_eq_true, decide_eq_true_eq, List.all_eq_true, List.mem_range] at h
  obtain ⟨⟨h1, h2⟩, h3⟩ := h
  have key : ∀ (k : Nat) (o : Oper), ops[k]? = some o → o.after.all (fun e => decide (e.on < k) || !Region.binds .any e) = true ∧ (if k < n then (relFrontB ops (rmasks ops.toList []) n sz k o && (!H.contains k || hoistB ops o k)) = true else (!H.contains k && (List.range n).all (fun j => H.contains j || depB (rmasks ops.toList []) k j) && soloB ops (rmasks ops.toList []) k o) = true) := by
    intro k o ho
    have := h3 k (Array.getElem?_eq_some_iff.1 ho).1
    rw [ho] at this
    simp only [Bool.and_eq_true] at this
    refine ⟨this.1, ?_⟩
    have h2 := this.2
    split at h2
    · rename_i hk; rw [if_pos hk]; exact h2
    · rename_i hk; rw [if_neg hk]; exact h2
  refine ⟨h1, Region.noSelect_spec h2, ?_, ?_, ?_, ?_, ?_⟩
  · intro k o ho e he hb
    have := (key k o ho).1
    simp only [Array.all_eq_true_iff_forall_mem, Bool.or_eq_true, decide_eq_true_eq, Bool.not_eq_true'] at this
    rcases this e he with h | h
    · exact h
    · rw [hb] at h; cases h
  · intro k o ho hk
    have := (key k o ho).2
    rw [if_pos hk] at this
    rw [Bool.and_eq_true] at this
    have this := this.1
    simp only [relFrontB, Bool.and_eq_true] at this
    obtain ⟨h4, _⟩ := this
    cases hd : o.dst with
    | none => rw [hd] at h4; simp at h4
    | some t =>
      rw [hd] at h4
      simp only [Bool.and_eq_true, decide_eq_true_eq, List.all_eq_true, List.mem_range, Bool.or_eq_true, beq_iff_eq, bne_iff_ne] at h4
      refine ⟨t, rfl, h4.1, fun j o' ho' hjk => ?_⟩
      have := h4.2 j (Array.getElem?_eq_some_iff.1 ho').1
      rw [ho'] at this
      simpa [hjk] using this
  · intro k o ho hk t ht j o' ho' hd
    have := (key k o ho).2
    rw [if_pos hk] at this
    rw [Bool.and_eq_true] at this
    have this := this.1
    simp only [relFrontB, Bool.and_eq_true, List.all_eq_true, List.mem_range] at this
    have h5 := this.2 t ht j (Array.getElem?_eq_some_iff.1 ho').1
    rw [ho'] at h5
    simp [hd] at h5
    constructor
    · intro hjk; simpa [hjk] using h5
    · intro hkj
      have h1 : ¬ j < k := by omega
      have h2 : ¬ j = k := by omega
      simpa [h1, h2] using h5
  · intro k o ho hk
    have := (key k o ho).2
    rw [if_neg (by omega)] at this
    simp only [Bool.and_eq_true, Bool.not_eq_true', List.contains_eq_mem, decide_eq_false_iff_not, List.all_eq_true, List.mem_range, Bool.or_eq_true, decide_eq_true_eq] at this
    exact this
  · intro k o ho hH hk
    have := (key k o ho).2
    rw [if_pos hk, Bool.and_eq_true] at this
    simpa [hH] using this.2

/-- the tail goes in one order. -/
theorem relTailH {H : List Nat} {P : Program} {ops : Array Oper} {n sz : Nat} {Q : Exit → Act → World → Prop} (hQ : ∀ c a d v w, Q (.panic c) (a.put (some d) v) w → Q (.panic c) a w) (hok : RelOkH H ops n sz) : ∀ (l : List Oper) (m : Nat) (listed : Array Bool) (a : Act) (w : World), n ≤ m → m + l.length = ops.size → l = ops.toList.drop m →
    listed.size = ops.size → (∀ i, i < ops.size → (listed.getD i false = true ↔ i < m)) → wpList P ops Q l a w → wpAny P .any ops Q l.length listed a w := by
  intro l
  induction l with
  | nil =>
    intro m listed a w hm hs hl hsz hL h
    refine ⟨?_, h⟩
    unfold Region.ready
    rw [List.filter_eq_nil_iff]
    intro i hi
    have hi' : i < ops.size := by simpa using hi
    have := (hL i hi').2 (by simp at hs; omega)
    have e : listed.getD i true = true := by
      rw [Array.getD_eq_getD_getElem?, Array.getElem?_eq_getElem (by omega)] at this ⊢; simpa using this
    rw [e]; simp
  | cons o l ih =>
    intro m listed a w hm hs hl hsz hL h
    simp only [List.length_cons] at hs
    have hmlt : m < ops.size := by omega
    have ho : ops[m]? = some o := by
      have := congrArg (·[0]?) hl
      simpa using this.symm
    have hl' : l = ops.toList.drop (m + 1) := by
      have := congrArg List.tail hl
      simpa using this
    have hstep : ∀ a w, wpList P ops Q l a w → wpAny P .any ops Q l.length (listed.setIfInBounds m true) a w := fun a w h' =>
        ih (m + 1) (listed.setIfInBounds m true) a w (by omega) (by omega) hl' (by simpa using hsz) (fun j hj => by
          have h0 := hL j hj
          rw [Array.getD_eq_getD_getElem?] at h0 ⊢
          by_cases hji : j = m
          · subst hji
            rw [Array.getElem?_setIfInBounds_self_of_lt (by omega)]; simp
          · rw [Array.getElem?_setIfInBounds_ne (fun e => hji e.symm), h0]; omega) h'
    have hmready : m ∈ Region.ready .any ops listed := by
      unfold Region.ready
      simp only [List.mem_filter, List.mem_range, Bool.and_eq_true, Bool.not_eq_true']
      refine ⟨hmlt, ?_, ?_⟩
      · have : ¬ (listed.getD m false = true) := fun h' => by have := (hL m hmlt).1 h'; omega
        rw [Array.getD_eq_getD_getElem?, Array.getElem?_eq_getElem (by omega)] at this ⊢
        simpa using this
      · rw [ho]
        simp only [Option.map_some, Option.getD_some, Array.all_eq_true_iff_forall_mem, Bool.or_eq_true]
        intro e he
        cases hb : Region.binds .any e with
        | false => exact .inl rfl
        | true =>
          have h1 := hok.early m o ho e he hb
          exact .inr ((hL e.on (by omega)).2 h1)
    have hsolo := (hok.tail m o ho hm).2
    simp only [soloB, Bool.or_eq_true, Bool.and_eq_true, List.all_eq_true, List.mem_range, decide_eq_true_eq] at hsolo
    rcases hsolo.symm with ⟨hp, hap⟩ | hsolo
    · obtain ⟨v, hy, hgo⟩ := pure_yields hp h
      refine wpAny_first (i := m) (oi := o) (v := v) ho hok.nosel (fun c a' w' h' => ?_) l.length listed a w ?_ hmready hy (hstep _ _ hgo)
      · cases hd : o.dst with
        | none => rw [hd] at h'; exact h'
        | some d => rw [hd] at h'; exact hQ _ _ _ _ _ h'
      · intro j oj hoj hjm hlj he
        have hjs := (Array.getElem?_eq_some_iff.1 hoj).1
        rcases hap j hjs with hle | hh
        · exfalso
          have := (hL j hjs).2 (by omega)
          rw [Array.getD_eq_getD_getElem?, Array.getElem?_eq_getElem (by omega)] at this hlj
          simp at this hlj; rw [this] at hlj; cases hlj
        · rw [hoj] at hh
          simp only [Bool.or_eq_true] at hh
          rcases hh with hh | hh
          · obtain ⟨q, hq, he2⟩ := Array.any_eq_true.1 hh
            obtain ⟨e, he1, hee⟩ : ∃ e, e ∈ oj.after ∧ e = oj.after[q] := ⟨_, Array.getElem_mem hq, rfl⟩
            rw [← hee] at he2
            simp only [Bool.and_eq_true, beq_iff_eq] at he2
            exact absurd he2.1 (he e he1 he2.2)
          · exact hh
    have hready : ∀ i ∈ Region.ready .any ops listed, i = m := by
      intro i hi
      unfold Region.ready at hi
      simp only [List.mem_filter, List.mem_range, Bool.and_eq_true, Bool.not_eq_true'] at hi
      obtain ⟨hi1, hi2, hi3⟩ := hi
      obtain ⟨oi, hoi⟩ : ∃ oi, ops[i]? = some oi := ⟨_, Array.getElem?_eq_getElem hi1⟩
      rw [hoi] at hi3
      simp only [Option.map_some, Option.getD_some, Array.all_eq_true_iff_forall_mem, Bool.or_eq_true, Bool.not_eq_true'] at hi3
      have hnl : ¬ i < m := fun h' => by
        have := (hL i hi1).2 h'
        rw [Array.getD_eq_getD_getElem?, Array.getElem?_eq_getElem (by omega)] at this hi2
        simp at this hi2; rw [this] at hi2; cases hi2
      by_cases him : i = m
      · exact him
      · exfalso
        have hd := (hsolo i hi1).resolve_left (by omega)
        have := dep_closed (ops := ops) (S := fun k => k < m ∨ k = i) (fun k o' ho' hk e he hb => by
          rcases hk with hk | rfl
          · exact .inl (Nat.lt_trans (hok.early k o' ho' e he hb) hk)
          · rw [hoi] at ho'; cases ho'
            rcases hi3 e he with h' | h'
            · rw [hb] at h'; cases h'
            · exact .inl ((hL e.on (Nat.lt_trans (hok.early _ _ hoi e he hb) hi1)).1 h')) (.inr rfl) hd
        omega
    refine ⟨?_, ?_⟩
    · intro hr
      rw [hr] at hmready
      simp at hmready
    · intro i hi
      obtain rfl := hready i hi
      unfold wpOp
      rw [ho]
      simp only
      unfold wpList at h
      split
      · rename_i hw
        rw [if_pos hw] at h
        exact h.imp (Oper.wp_mono hstep) id
      · rename_i hw
        rw [if_neg hw] at h
        exact hstep _ _ h

theorem RelInvS.stepH {H : List Nat} {ops : Array Oper} {w0 : World} {a0 : Act} {Ts : List TT} {n : Nat} {listed : Array Bool} {a : Act} {w w' : World} (hok : RelOkH H ops n a0.tmps.size) (hk : ∀ T ∈ Ts, ttKeepsS T)
    (I : RelInvS ops w0 a0 Ts n listed a w) {i : Nat} {o : Oper} {T : TT} {v : Value} (ho : ops[i]? = some o) (hTi : Ts[i]? = some T) (hin : i < n) (hr : ∀ e ∈ o.after, Region.binds .any e = true → listed.getD e.on false = true)
    (hbw : StayS w0.heap.size w w') (hv : ttHolds T v w') : RelInvS ops w0 a0 Ts n (listed.setIfInBounds i true) (a.put o.dst v) w' := by
  obtain ⟨t, hd, ht, hu⟩ := hok.dst i o ho hin
  have his : i < listed.size := by rw [I.hsz]; exact (Array.getElem?_eq_some_iff.1 ho).1
  refine ⟨I.hb.trans hbw.below, by rw [hd]; exact I.hd, by rw [hd]; simpa [Act.put] using I.hs, by simpa using I.hsz, ?_, ?_, ?_, ?_⟩
  · intro k o' ho' hk' e he hbd
    simp only [getD_set _ _ _ his] at hk' ⊢
    by_cases hki : k = i
    · subst hki
      rw [ho] at ho'; cases ho'
      rw [hr e he hbd]; split <;> rfl
    · rw [if_neg hki] at hk'
      have := I.hcl k o' ho' hk' e he hbd
      split
      · rfl
      · exact this
  · intro j hj
    rw [getD_set _ _ _ his, if_neg (by omega)]
    exact I.hn j hj
  · intro j o' T' ho' hT' hl
    rw [getD_set _ _ _ his] at hl
    by_cases hji : j = i
    · subst hji
      rw [ho] at ho'; cases ho'
      rw [hTi] at hT'; cases hT'
      rw [hd, Array.getD_eq_getD_getElem?, Option.getD_some, put_get _ _ _ (by rw [I.hs]; exact ht)]
      exact hv
    · rw [if_neg hji] at hl
      have hne := hu j o' ho' hji
      have hjn : j < n := by
        rcases Nat.lt_or_ge j n with h | h
        · exact h
        · rw [I.hn j h] at hl; cases hl
      obtain ⟨t', hd', _, _⟩ := hok.dst j o' ho' hjn
      have h1 := I.hT j o' T' ho' hT' hl
      rw [hd', Option.getD_some, Array.getD_eq_getD_getElem?] at h1 ⊢
      rw [hd, put_get_ne _ _ _ _ (fun e => hne (by rw [hd', ← e]))]
      exact (hk T' (List.mem_of_getElem? hT')).on h1 hbw
  · intro t' ht'
    have hne : some t ≠ some t' := fun e => by
      have := ht' i o ho (by rw [getD_set _ _ _ his, if_pos rfl])
      exact this (by rw [hd, e])
    rw [hd, put_get_ne _ _ _ _ hne]
    exact I.h0 t' fun j o' ho' hl => ht' j o' ho' (by
      rw [getD_set _ _ _ his]
      split
      · rfl
      · exact hl)

theorem relFrontH {H : List Nat} {P : Program} {ops : Array Oper} {n : Nat} {Q : Exit → Act → World → Prop} {w0 : World} {a0 : Act} {Ts : List TT} (hQ : ∀ c a d v w, Q (.panic c) (a.put (some d) v) w → Q (.panic c) a w) (hok : RelOkH H ops n a0.tmps.size) (hl : Ts.length = n)
    (hw : relWalkS P ops w0 (fun a w => wpList P ops Q (ops.toList.drop n) a w) (ops.toList.take n) Ts a0 []) :
    ∀ (fuel : Nat) (listed : Array Bool) (a : Act) (w : World), RelInvS ops w0 a0 Ts n listed a w → unl listed ops.size = fuel → wpAny P .any ops Q fuel listed a w := by
  have hlen : (ops.toList.take n).length = Ts.length := by rw [hl]; have := hok.le; simp; omega
  have hk := relWalk_keepsS _ _ _ _ hlen hw
  have hTs : ∀ i, i < n → ∃ T, Ts[i]? = some T := fun i hi => ⟨_, List.getElem?_eq_getElem (by omega)⟩
  have hos : ∀ i (o : Oper), i < n → ((ops.toList.take n)[i]? = some o ↔ ops[i]? = some o) := fun i o hi => by simp [List.getElem?_take, hi]
  -- a frame in which each of the first k slots holds what was left in it
  have same : ∀ (k : Nat) (listed : Array Bool) (a : Act) (w : World), RelInvS ops w0 a0 Ts n listed a w → k ≤ n → ∀ t,
      (∀ (j : Nat) (o : Oper), j < k → ops[j]? = some o → o.dst = some t → listed.getD j false = true) → (∀ (j : Nat) (o : Oper), k ≤ j → ops[j]? = some o → o.dst = some t → listed.getD j false = false) →
      a.tmps[t]? = (lexA (ops.toList.take n) Ts (fun j => a.tmps.getD (((ops[j]?).bind (·.dst)).getD 0) undef) k a0).tmps[t]? := by
    intro k listed a w I hkn t h1 h2
    by_cases hex : ∃ (j : Nat) (o : Oper), j < k ∧ ops[j]? = some o ∧ o.dst = some t
    · obtain ⟨j, o, hj, ho, hd⟩ := hex
      obtain ⟨T, hT⟩ := hTs j (by omega)
      obtain ⟨t', hd', ht', hu⟩ := hok.dst j o ho (by omega)
      rw [hd] at hd'; cases hd'
      rw [lexA_get _ _ _ k a0 t j o T hj ((hos j o (by omega)).2 ho) hT hd ht' (fun i o' hi hik ho' => hu i o' ((hos i o' (by omega)).1 ho') (by omega))]
      have h3 := I.hT j o T ho hT (h1 j o hj ho hd)
      rw [hd, Option.getD_some] at h3
      have h4 : a.tmps[t]? = some (a.tmps.getD t undef) := by
        rw [Array.getD_eq_getD_getElem?, Array.getElem?_eq_getElem (by rw [I.hs]; exact ht')]; rfl
      rw [h4]
      simp only [ho, Option.bind_some, hd, Option.getD_some]
      cases T with
      | inl c => exact congrArg some h3
      | inr F => rfl
    · rw [lexA_ne _ _ _ k a0 t (fun j o hj ho hd => hex ⟨j, o, hj, (hos j o (by omega)).1 ho, hd⟩)]
      refine I.h0 t fun j o ho hlj hd => ?_
      rcases Nat.lt_or_ge j k with h | h
      · exact hex ⟨j, o, h, ho, hd⟩
      · rw [h2 j o h ho hd] at hlj; cases hlj
  have full : ∀ (fuel : Nat) (listed : Array Bool) (a : Act) (w : World), RelInvS ops w0 a0 Ts n listed a w → unl listed ops.size = fuel → (∀ i, i < n → listed.getD i false = true) → wpAny P .any ops Q fuel listed a w := by
    intro fuel listed a w I hf hall
    have hfu : (ops.toList.drop n).length = fuel := by
      rw [← hf]
      unfold unl
      rw [List.filter_congr (q := fun i => decide (n ≤ i)) (fun i hi => by
        by_cases h : n ≤ i
        · rw [I.hn i h]; simp [h]
        · rw [hall i (by omega)]; simp [h]), filter_ge]
      simp
    rw [← hfu]
    refine relTailH hQ hok (ops.toList.drop n) n listed a w (Nat.le_refl _) (by have := hok.le; simp; omega) rfl I.hsz (fun i hi => ?_) ?_
    · rcases Nat.lt_or_ge i n with h | h
      · exact ⟨fun _ => h, fun _ => hall i h⟩
      · rw [I.hn i h]; exact ⟨(fun h' => by cases h'), (fun h' => by omega)⟩
    · have he := relWalk_endS (ops.toList.take n) Ts a0 [] (fun j => a.tmps.getD (((ops[j]?).bind (·.dst)).getD 0) undef) hlen hw w I.hb (by simp) (fun j F hF => by
        have hj : j < n := by have := (List.getElem?_eq_some_iff.1 hF).1; omega
        obtain ⟨o, ho⟩ : ∃ o, ops[j]? = some o := ⟨_, Array.getElem?_eq_getElem (by have := hok.le; omega)⟩
        have h3 := I.hT j o _ ho hF (hall j hj)
        simp only [ho, Option.bind_some]
        exact h3)
      have hA : a = lexA (ops.toList.take n) Ts (fun j => a.tmps.getD (((ops[j]?).bind (·.dst)).getD 0) undef) (ops.toList.take n).length a0 := by
        rw [hlen, hl]
        have h1 : a.tmps = (lexA (ops.toList.take n) Ts (fun j => a.tmps.getD (((ops[j]?).bind (·.dst)).getD 0) undef) n a0).tmps := by
          apply Array.ext'
          apply List.ext_getElem?
          intro t
          rw [Array.getElem?_toList, Array.getElem?_toList]
          exact same n listed a w I (Nat.le_refl _) t (fun j o hj _ _ => hall j hj) (fun j o hj _ _ => I.hn j hj)
        have h2 := lexA_defers (ops.toList.take n) Ts (fun j => a.tmps.getD (((ops[j]?).bind (·.dst)).getD 0) undef) n a0
        cases a with
        | mk tm df =>
          cases hx : lexA (ops.toList.take n) Ts (fun j => (Act.mk tm df).tmps.getD (((ops[j]?).bind (·.dst)).getD 0) undef) n a0 with
          | mk tm' df' =>
            rw [hx] at h1 h2
            have h3 := I.hd
            simp only at h1 h2 h3
            rw [h1, h3, h2]
      rw [← hA] at he
      exact he
  intro fuel
  induction fuel with
  | zero =>
    intro listed a w I hf
    refine full 0 listed a w I hf fun i hi => ?_
    cases h : listed.getD i false with
    | true => rfl
    | false =>
      exfalso
      have : i ∈ (List.range ops.size).filter (fun i => !listed.getD i false) := by
        simp only [List.mem_filter, List.mem_range]
        exact ⟨by have := hok.le; omega, by rw [h]; rfl⟩
      unfold unl at hf
      rw [List.length_eq_zero_iff.1 hf] at this
      simp at this
  | succ fuel ih =>
    intro listed a w I hf
    by_cases hall : ∀ i, i < n → listed.getD i false = true
    · exact full (fuel + 1) listed a w I hf hall
    · have hex : ∃ k, k < n ∧ listed.getD k false = false ∧ ∀ j, j < k → listed.getD j false = true := by
        have : ∃ k, k < n ∧ listed.getD k false = false := by
          apply Classical.byContradiction
          intro hne
          apply hall
          intro i hi
          cases h : listed.getD i false with
          | true => rfl
          | false => exact absurd ⟨i, hi, h⟩ hne
        obtain ⟨k, hk1, hk2⟩ := this
        induction k using Nat.strongRecOn with
        | ind k ihk =>
          by_cases hj : ∀ j, j < k → listed.getD j false = true
          · exact ⟨k, hk1, hk2, hj⟩
          · obtain ⟨j, hj1, hj2⟩ : ∃ j, j < k ∧ listed.getD j false = false := by
              apply Classical.byContradiction
              intro hne
              apply hj
              intro j hjk
              cases h : listed.getD j false with
              | true => rfl
              | false => exact absurd ⟨j, hjk, h⟩ hne
            exact ihk j hj1 (by omega) hj2
      obtain ⟨k, hkn, hkl, hkm⟩ := hex
      have rdy : ∀ i, i ∈ Region.ready .any ops listed ↔ i < ops.size ∧ listed.getD i false = false ∧ ∀ (o : Oper), ops[i]? = some o → ∀ e ∈ o.after, Region.binds .any e = true → listed.getD e.on false = true := by
        intro i
        unfold Region.ready
        simp only [List.mem_filter, List.mem_range, Bool.and_eq_true, Bool.not_eq_true']
        constructor
        · rintro ⟨h1, h2, h3⟩
          refine ⟨h1, ?_, fun o ho e he hb => ?_⟩
          · rw [Array.getD_eq_getD_getElem?, Array.getElem?_eq_getElem (by rw [I.hsz]; exact h1)] at h2 ⊢; exact h2
          · rw [ho] at h3
            simp only [Option.map_some, Option.getD_some, Array.all_eq_true_iff_forall_mem, Bool.or_eq_true, Bool.not_eq_true'] at h3
            rcases h3 e he with h | h
            · rw [hb] at h; cases h
            · exact h
        · rintro ⟨h1, h2, h3⟩
          refine ⟨h1, ?_, ?_⟩
          · rw [Array.getD_eq_getD_getElem?, Array.getElem?_eq_getElem (by rw [I.hsz]; exact h1)] at h2 ⊢; exact h2
          · rw [Array.getElem?_eq_getElem h1]
            simp only [Option.map_some, Option.getD_some, Array.all_eq_true_iff_forall_mem, Bool.or_eq_true, Bool.not_eq_true']
            intro e he
            cases hb : Region.binds .any e with
            | false => exact .inl rfl
            | true => exact .inr (h3 _ (Array.getElem?_eq_getElem h1) e he hb)
      by_cases hkH : k ∈ H
      · obtain ⟨o, ho⟩ : ∃ o, ops[k]? = some o := ⟨_, Array.getElem?_eq_getElem (by have := hok.le; omega)⟩
        have hho := hok.hoist k o ho hkH hkn
        simp only [hoistB, Bool.and_eq_true, List.all_eq_true, List.mem_range, Bool.or_eq_true, beq_iff_eq] at hho
        obtain ⟨⟨hg, hmv⟩, hap⟩ := hho
        obtain ⟨x, hx⟩ : ∃ x, o.op = .move x := by
          cases hop : o.op with
          | move x => exact ⟨x, rfl⟩
          | _ => rw [hop] at hmv; cases hmv
        have hgn : o.guard = none := by simpa using hg
        obtain ⟨d, hd, _, _⟩ := hok.dst k o ho hkn
        have hwant : ∀ y, Region.wanted o y = true := fun y => by unfold Region.wanted; rw [hgn]
        have hrunv : ∀ (ev : Operand → Value) W, (execOp ev o).run P W = .ok (.value (ev x)) W := fun ev W => by unfold execOp; rw [hx]; rfl
        obtain ⟨T, hT⟩ := hTs k hkn
        have hdep : ∀ j, depB (rmasks ops.toList []) k j = true → j ≠ k → listed.getD j false = true := by
          intro j hdj hjk
          have := dep_closed (ops := ops) (S := fun q => listed.getD q false = true ∨ q = k) (fun q o' ho' hq e he hb => by
            rcases hq with hq | rfl
            · exact .inl (I.hcl q o' ho' hq e he hb)
            · exact .inl (hkm _ (hok.early _ o' ho' e he hb))) (.inr rfl) hdj
          exact this.resolve_right hjk
        have hup : ∀ j, k < j → depB (rmasks ops.toList []) j k = true → listed.getD j false = false := by
          intro j hij hd
          cases h : listed.getD j false with
          | false => rfl
          | true => have h' : listed.getD k false = true := dep_closed I.hcl h hd; rw [hkl] at h'; cases h'
        have hsame : ∀ t ∈ o.looksAt ops, a.tmps[t]? = (lexA (ops.toList.take n) Ts (fun j => a.tmps.getD (((ops[j]?).bind (·.dst)).getD 0) undef) k a0).tmps[t]? := by
          intro t ht
          refine same k listed a w I (by omega) t (fun j o' hj ho' hd => hkm j hj) (fun j o' hj ho' hd => ?_)
          by_cases hji : j = k
          · rw [hji]; exact hkl
          · exact hup j (by omega) ((hok.looks k o ho hkn t ht j o' ho' hd).2 (by omega))
        have hop := relWalk_atS (ops.toList.take n) Ts a0 [] (fun j => a.tmps.getD (((ops[j]?).bind (·.dst)).getD 0) undef) k o T hw ((hos k o hkn).2 ho) hT w I.hb (fun p hp => by simp at hp) (fun j o' F hj ho' hF hd => by
          have ho'' := (hos j o' (by omega)).1 ho'
          obtain ⟨t', hd', _, _⟩ := hok.dst j o' ho'' (by omega)
          have h3 := I.hT j o' _ ho'' hF (hkm j hj)
          simp only [ho'', Option.bind_some]
          exact h3)
        unfold relOpS at hop
        rw [← wanted_congr hsame, ← eval_congr (ops := ops) (hok.nosel k o · · ho) hsame, if_pos (hwant _), hrunv] at hop
        have hunl : unl (listed.setIfInBounds k true) ops.size = fuel := by
          have h1 := filter_one (fun j => !listed.getD j false) (fun j => !(listed.setIfInBounds k true).getD j false) k (by simp [hkl]) (by rw [getD_set _ _ _ (by rw [I.hsz]; have := hok.le; omega), if_pos rfl]; rfl) (fun j hj => by rw [getD_set _ _ _ (by rw [I.hsz]; have := hok.le; omega), if_neg hj]) ops.size (by have := hok.le; omega)
          unfold unl at hf ⊢
          omega
        refine wpAny_first (i := k) (oi := o) (v := a.eval x) ho (hok.nosel) ?_ fuel listed a w ?_ ?_ ?_ ?_
        · intro c a' w' h'
          rw [hd] at h'
          exact hQ _ _ _ _ _ h'
        · intro j oj hoj hjk _ he
          rcases hap j (Array.getElem?_eq_some_iff.1 hoj).1 with h | h
          · exact absurd h hjk
          · rw [hoj] at h
            simp only [Bool.or_eq_true] at h
            rcases h with h | h
            · obtain ⟨i, hi, he2⟩ := Array.any_eq_true.1 h
              obtain ⟨e, he1, hee⟩ : ∃ e, e ∈ oj.after ∧ e = oj.after[i] := ⟨_, Array.getElem_mem hi, rfl⟩
              rw [← hee] at he2
              simp only [Bool.and_eq_true, beq_iff_eq] at he2
              exact absurd he2.1 (he e he1 he2.2)
            · exact h
        · exact (rdy k).2 ⟨by have := hok.le; omega, hkl, fun o' ho' e he hb => hkm _ (hok.early k o' ho' e he hb)⟩
        · exact .inl ⟨hwant _, fun W => hrunv _ W⟩
        · exact ih _ _ _ (I.stepH hok hk ho hT hkn (fun e he hb => hkm _ (hok.early k o ho e he hb)) hop.1 hop.2) hunl
      refine ⟨fun hr => ?_, fun i hi => ?_⟩
      · exfalso
        have : k ∈ Region.ready .any ops listed := (rdy k).2 ⟨by have := hok.le; omega, hkl, fun o ho e he hb => hkm _ (hok.early k o ho e he hb)⟩
        rw [hr] at this
        simp at this
      · obtain ⟨hi1, hi2, hi3⟩ := (rdy i).1 hi
        obtain ⟨o, ho⟩ : ∃ o, ops[i]? = some o := ⟨_, Array.getElem?_eq_getElem hi1⟩
        have hdep : ∀ j, depB (rmasks ops.toList []) i j = true → j ≠ i → listed.getD j false = true := by
          intro j hd hji
          have := dep_closed (ops := ops) (S := fun k => listed.getD k false = true ∨ k = i) (fun k o' ho' hk' e he hb => by
            rcases hk' with hk' | rfl
            · exact .inl (I.hcl k o' ho' hk' e he hb)
            · exact .inl (hi3 o' ho' e he hb)) (.inr rfl) hd
          exact this.resolve_right hji
        have hin : i < n := by
          rcases Nat.lt_or_ge i n with h | h
          · exact h
          · have := hdep k (((hok.tail i o ho h).1.2 k (by omega)).resolve_left hkH) (by omega)
            rw [hkl] at this; cases this
        obtain ⟨T, hT⟩ := hTs i hin
        have hup : ∀ j, i < j → depB (rmasks ops.toList []) j i = true → listed.getD j false = false := by
          intro j hij hd
          cases h : listed.getD j false with
          | false => rfl
          | true => have h' : listed.getD i false = true := dep_closed I.hcl h hd; rw [hi2] at h'; cases h'
        have hsame : ∀ t ∈ o.looksAt ops, a.tmps[t]? = (lexA (ops.toList.take n) Ts (fun j => a.tmps.getD (((ops[j]?).bind (·.dst)).getD 0) undef) i a0).tmps[t]? := by
          intro t ht
          refine same i listed a w I (by omega) t (fun j o' hj ho' hd => ?_) (fun j o' hj ho' hd => ?_)
          · exact hdep j ((hok.looks i o ho hin t ht j o' ho' hd).1 hj) (by omega)
          · by_cases hji : j = i
            · rw [hji]; exact hi2
            · exact hup j (by omega) ((hok.looks i o ho hin t ht j o' ho' hd).2 (by omega))
        have hop := relWalk_atS (ops.toList.take n) Ts a0 [] (fun j => a.tmps.getD (((ops[j]?).bind (·.dst)).getD 0) undef) i o T hw ((hos i o hin).2 ho) hT w I.hb (fun p hp => by simp at hp) (fun j o' F hj ho' hF hd => by
          have ho'' := (hos j o' (by omega)).1 ho'
          obtain ⟨t', hd', _, _⟩ := hok.dst j o' ho'' (by omega)
          rw [hd', Option.getD_some] at hd
          have h3 := I.hT j o' _ ho'' hF (hdep j ((hok.looks i o ho hin t' hd j o' ho'' hd').1 hj) (by omega))
          simp only [ho'', Option.bind_some]
          exact h3)
        have hunl : unl (listed.setIfInBounds i true) ops.size = fuel := by
          have h1 := filter_one (fun j => !listed.getD j false) (fun j => !(listed.setIfInBounds i true).getD j false) i (by simp [hi2]) (by rw [getD_set _ _ _ (by rw [I.hsz]; exact hi1), if_pos rfl]; rfl) (fun j hj => by rw [getD_set _ _ _ (by rw [I.hsz]; exact hi1), if_neg hj]) ops.size hi1
          unfold unl at hf ⊢
          omega
        have hgo : ∀ v w', StayS w0.heap.size w w' → ttHolds T v w' → wpAny P .any ops Q fuel (listed.setIfInBounds i true) (a.put o.dst v) w' := fun v w' h1 h2 =>
          ih _ _ _ (I.stepH hok hk ho hT hin (hi3 o ho) h1 h2) hunl
        unfold relOpS at hop
        rw [← wanted_congr hsame, ← eval_congr (ops := ops) (hok.nosel i o · · ho) hsame] at hop
        unfold wpOp
        rw [ho]
        simp only
        split
        · rename_i hwa
          rw [if_pos hwa] at hop
          refine .inl ?_
          unfold Oper.wp
          cases hrun : (execOp a.eval o).run P w with
          | halt h w' => rw [hrun] at hop; simp [relUponS] at hop
          | ok x w' =>
            rw [hrun] at hop
            cases x with
            | value v => exact hgo v w' hop.1 hop.2
            | enter f args =>
              obtain ⟨rfl, hc⟩ := hop
              refine hc.mono ?_
              rintro e w'' ⟨v, rfl, h1, h2⟩
              exact hgo v w'' h1 h2
            | _ => simp [relUponS] at hop
        · rename_i hwa
          rw [if_neg hwa] at hop
          exact hgo undef w (StayS.refl _ _) hop

/-- ONE WALK IN THE TEXT's ORDER SERVES EVERY ORDER. -/
theorem wp_region_relH {H : List Nat} {P : Program} {id : Nat} {Q : Exit → Act → World → Prop} {a : Act} {w : World} {l : List Oper} (n : Nat) (Ts : List TT) (hm : P.follows .mixedOrders = true) (hB : relOkHB H l.toArray n a.tmps.size = true) (hQ : ∀ c a d v w, Q (.panic c) (a.put (some d) v) w → Q (.panic c) a w) (hl : Ts.length = n)
    (h : relWalkS P l.toArray w (fun a' w' => wpList P l.toArray Q (l.drop n) a' w') (l.take n) Ts a []) : (Code.region id l.toArray true).wp P Q a w := by
  have hok := relOkH_of hB
  refine wp_region_any hm (relFrontH (w0 := w) (a0 := a) hQ hok hl h _ _ a w.drew ⟨(Below.refl _ _).drew, rfl, rfl, by simp, ?_, ?_, ?_, ?_⟩ ?_)
  · intro k o ho hk
    exfalso
    simp only [Array.getD_eq_getD_getElem?] at hk
    by_cases h : k < l.length <;> simp [h] at hk
  · intro i hi; simp [Array.getD_eq_getD_getElem?]
    by_cases h : i < l.length <;> simp [h]
  · intro i o T ho hT hk
    exfalso
    rw [Array.getD_eq_getD_getElem?] at hk
    by_cases h : i < l.length <;> simp [h] at hk
  · intro t _; rfl
  · unfold unl
    rw [List.filter_congr (q := fun _ => true) (fun i hi => by
      rw [Array.getD_eq_getD_getElem?]
      by_cases h : i < l.length <;> simp [h]), List.filter_eq_self.2 (fun _ _ => rfl)]
    simp


end Go.Proofs.YtegekaocbalndaaGreatDoor
