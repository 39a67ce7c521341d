import Derived.Test.YtkdkpnidiehdfaaDoorRelb
set_option linter.unusedSimpArgs false
set_option linter.unusedVariables false
namespace Go.Proofs.YtkdkpnidiehdfaaDoor
open Go.RowKit

theorem filter_one (p q : Nat → Bool) (i : Nat) (hp : p i = true) (hq : q i = false) (h : ∀ j, j ≠ i → q j = p j) : ∀ N, i < N → ((List.range N).filter p).length = ((List.range N).filter q).length + 1
  | 0, hi => by omega
  | N + 1, hi => by
    rw [List.range_succ, List.filter_append, List.filter_append, List.length_append, List.length_append]
    by_cases hN : i = N
    · subst hN
      have e : (List.range i).filter p = (List.range i).filter q := List.filter_congr fun j hj => by
        have : j < i := by simpa using hj
        exact (h j (by omega)).symm
      rw [e]; simp [List.filter_cons, hp, hq]
    · have := filter_one p q i hp hq h N (by omega)
      rw [this]
      have e : [N].filter p = [N].filter q := List.filter_congr fun j hj => by
        have : j = N := by simpa using hj
        subst this; exact (h j (fun e => hN e.symm)).symm
      rw [e]; omega
theorem filter_ge (n : Nat) : ∀ N, ((List.range N).filter (fun i => decide (n ≤ i))).length = N - n
  | 0 => by simp
  | N + 1 => by
    rw [List.range_succ, List.filter_append, List.length_append, filter_ge n N]
    by_cases h : n ≤ N
    · simp [List.filter_cons, h]; omega
    · simp [List.filter_cons, h]; omega
def unl (listed : Array Bool) (N : Nat) : Nat := ((List.range N).filter (fun i => !listed.getD i false)).length

theorem getD_set (l : Array Bool) (i j : Nat) (hi : i < l.size) : (l.setIfInBounds i true).getD j false = if j = i then true else l.getD j false := by
  rw [Array.getD_eq_getD_getElem?]
  by_cases h : j = i
  · subst h; rw [Array.getElem?_setIfInBounds_self_of_lt hi]; simp
  · rw [Array.getElem?_setIfInBounds_ne (fun e => h e.symm), if_neg h, Array.getD_eq_getD_getElem?]

theorem wanted_congr {ops : Array Oper} {o : Oper} {t1 t2 : Array Value} (h : ∀ t ∈ o.looksAt ops, t1[t]? = t2[t]?) : Region.wanted o (yielded ops t1) = Region.wanted o (yielded ops t2) := by
  unfold Region.wanted
  cases hg : o.guard with
  | none => rfl
  | some p =>
    obtain ⟨j, want⟩ := p
    simp only
    have : yielded ops t1 j = yielded ops t2 j := by
      unfold yielded
      cases hd : (ops[j]?).bind (·.dst) with
      | none => rfl
      | some t =>
        have ht : t ∈ o.looksAt ops := by
          unfold Oper.looksAt
          rw [hg]
          simp [hd]
        simp only [Option.bind_some, h t ht]
    rw [this]
theorem eval_congr {ops : Array Oper} {o : Oper} {a b : Act} (hs : ∀ cs b, o.op ≠ .select cs b) (h : ∀ t ∈ o.looksAt ops, a.tmps[t]? = b.tmps[t]?) : execOp a.eval o = execOp b.eval o :=
  execOp_congr o hs fun x hx => by
    cases x with
    | tmp t =>
      have ht : t ∈ o.looksAt ops := List.mem_append_left _ (List.mem_filterMap.2 ⟨.tmp t, by simpa using hx, rfl⟩)
      simp only [Act.eval, Array.getD_eq_getD_getElem?, h t ht]
    | _ => rfl

structure RelInv (ops : Array Oper) (w0 : World) (a0 : Act) (Ts : List TT) (n : Nat) (listed : Array Bool) (a : Act) (w : World) : Prop where
  hb : Below w0.heap.size w0 w
  hd : a.defers = a0.defers
  hs : a.tmps.size = a0.tmps.size
  hsz : listed.size = ops.size
  hcl : relClosed ops (fun k => listed.getD k false = true)
  hn : ∀ i, n ≤ i → listed.getD i false = false
  hT : ∀ (i : Nat) (o : Oper) (T : TT), ops[i]? = some o → Ts[i]? = some T → listed.getD i false = true → ttHolds T (a.tmps.getD (o.dst.getD 0) undef) w
  h0 : ∀ t, (∀ (i : Nat) (o : Oper), ops[i]? = some o → listed.getD i false = true → o.dst ≠ some t) → a.tmps[t]? = a0.tmps[t]?

theorem RelInv.step {ops : Array Oper} {w0 : World} {a0 : Act} {Ts : List TT} {n : Nat} {listed : Array Bool} {a : Act} {w w' : World} (hok : RelOk ops n a0.tmps.size) (hk : ∀ T ∈ Ts, ttKeeps T)
    (I : RelInv ops w0 a0 Ts n listed a w) {i : Nat} {o : Oper} {T : TT} {v : Value} (ho : ops[i]? = some o) (hTi : Ts[i]? = some T) (hin : i < n) (hr : ∀ e ∈ o.after, Region.binds .any e = true → listed.getD e.on false = true)
    (hbw : Stay w0.heap.size w w') (hv : ttHolds T v w') : RelInv ops w0 a0 Ts n (listed.setIfInBounds i true) (a.put o.dst v) w' := by
  obtain ⟨t, hd, ht, hu⟩ := hok.dst i o ho hin
  have his : i < listed.size := by rw [I.hsz]; exact (Array.getElem?_eq_some_iff.1 ho).1
  refine ⟨I.hb.trans hbw.below, by rw [hd]; exact I.hd, by rw [hd]; simpa [Act.put] using I.hs, by simpa using I.hsz, ?_, ?_, ?_, ?_⟩
  · intro k o' ho' hk' e he hbd
    simp only [getD_set _ _ _ his] at hk' ⊢
    by_cases hki : k = i
    · subst hki
      rw [ho] at ho'; cases ho'
      rw [hr e he hbd]; split <;> rfl
    · rw [if_neg hki] at hk'
      have := I.hcl k o' ho' hk' e he hbd
      split
      · rfl
      · exact this
  · intro j hj
    rw [getD_set _ _ _ his, if_neg (by omega)]
    exact I.hn j hj
  · intro j o' T' ho' hT' hl
    rw [getD_set _ _ _ his] at hl
    by_cases hji : j = i
    · subst hji
      rw [ho] at ho'; cases ho'
      rw [hTi] at hT'; cases hT'
      rw [hd, Array.getD_eq_getD_getElem?, Option.getD_some, put_get _ _ _ (by rw [I.hs]; exact ht)]
      exact hv
    · rw [if_neg hji] at hl
      have hne := hu j o' ho' hji
      have hjn : j < n := by
        rcases Nat.lt_or_ge j n with h | h
        · exact h
        · rw [I.hn j h] at hl; cases hl
      obtain ⟨t', hd', _, _⟩ := hok.dst j o' ho' hjn
      have h1 := I.hT j o' T' ho' hT' hl
      rw [hd', Option.getD_some, Array.getD_eq_getD_getElem?] at h1 ⊢
      rw [hd, put_get_ne _ _ _ _ (fun e => hne (by rw [hd', ← e]))]
      exact (hk T' (List.mem_of_getElem? hT')).on h1 hbw
  · intro t' ht'
    have hne : some t ≠ some t' := fun e => by
      have := ht' i o ho (by rw [getD_set _ _ _ his, if_pos rfl])
      exact this (by rw [hd, e])
    rw [hd, put_get_ne _ _ _ _ hne]
    exact I.h0 t' fun j o' ho' hl => ht' j o' ho' (by
      rw [getD_set _ _ _ his]
      split
      · rfl
      · exact hl)

theorem relFront {P : Program} {ops : Array Oper} {n : Nat} {Q : Exit → Act → World → Prop} {w0 : World} {a0 : Act} {Ts : List TT} (hok : RelOk ops n a0.tmps.size) (hl : Ts.length = n)
    (hw : relWalk P ops w0 (fun a w => wpList P ops Q (ops.toList.drop n) a w) (ops.toList.take n) Ts a0 []) :
    ∀ (fuel : Nat) (listed : Array Bool) (a : Act) (w : World), RelInv ops w0 a0 Ts n listed a w → unl listed ops.size = fuel → wpAny P .any ops Q fuel listed a w := by
  have hlen : (ops.toList.take n).length = Ts.length := by rw [hl]; have := hok.le; simp; omega
  have hk := relWalk_keeps _ _ _ _ hlen hw
  have hTs : ∀ i, i < n → ∃ T, Ts[i]? = some T := fun i hi => ⟨_, List.getElem?_eq_getElem (by omega)⟩
  have hos : ∀ i (o : Oper), i < n → ((ops.toList.take n)[i]? = some o ↔ ops[i]? = some o) := fun i o hi => by simp [List.getElem?_take, hi]
  -- a frame in which each of the first k slots holds what was left in it
  have same : ∀ (k : Nat) (listed : Array Bool) (a : Act) (w : World), RelInv ops w0 a0 Ts n listed a w → k ≤ n → ∀ t,
      (∀ (j : Nat) (o : Oper), j < k → ops[j]? = some o → o.dst = some t → listed.getD j false = true) → (∀ (j : Nat) (o : Oper), k ≤ j → ops[j]? = some o → o.dst = some t → listed.getD j false = false) →
      a.tmps[t]? = (lexA (ops.toList.take n) Ts (fun j => a.tmps.getD (((ops[j]?).bind (·.dst)).getD 0) undef) k a0).tmps[t]? := by
    intro k listed a w I hkn t h1 h2
    by_cases hex : ∃ (j : Nat) (o : Oper), j < k ∧ ops[j]? = some o ∧ o.dst = some t
    · obtain ⟨j, o, hj, ho, hd⟩ := hex
      obtain ⟨T, hT⟩ := hTs j (by omega)
      obtain ⟨t', hd', ht', hu⟩ := hok.dst j o ho (by omega)
      rw [hd] at hd'; cases hd'
      rw [lexA_get _ _ _ k a0 t j o T hj ((hos j o (by omega)).2 ho) hT hd ht' (fun i o' hi hik ho' => hu i o' ((hos i o' (by omega)).1 ho') (by omega))]
      have h3 := I.hT j o T ho hT (h1 j o hj ho hd)
      rw [hd, Option.getD_some] at h3
      have h4 : a.tmps[t]? = some (a.tmps.getD t undef) := by
        rw [Array.getD_eq_getD_getElem?, Array.getElem?_eq_getElem (by rw [I.hs]; exact ht')]; rfl
      rw [h4]
      simp only [ho, Option.bind_some, hd, Option.getD_some]
      cases T with
      | inl c => exact congrArg some h3
      | inr F => rfl
    · rw [lexA_ne _ _ _ k a0 t (fun j o hj ho hd => hex ⟨j, o, hj, (hos j o (by omega)).1 ho, hd⟩)]
      refine I.h0 t fun j o ho hlj hd => ?_
      rcases Nat.lt_or_ge j k with h | h
      · exact hex ⟨j, o, h, ho, hd⟩
      · rw [h2 j o h ho hd] at hlj; cases hlj
  have full : ∀ (fuel : Nat) (listed : Array Bool) (a : Act) (w : World), RelInv ops w0 a0 Ts n listed a w → unl listed ops.size = fuel → (∀ i, i < n → listed.getD i false = true) → wpAny P .any ops Q fuel listed a w := by
    intro fuel listed a w I hf hall
    have hfu : (ops.toList.drop n).length = fuel := by
      rw [← hf]
      unfold unl
      rw [List.filter_congr (q := fun i => decide (n ≤ i)) (fun i hi => by
        by_cases h : n ≤ i
        · rw [I.hn i h]; simp [h]
        · rw [hall i (by omega)]; simp [h]), filter_ge]
      simp
    rw [← hfu]
    refine relTail hok (ops.toList.drop n) n listed a w (Nat.le_refl _) (by have := hok.le; simp; omega) rfl I.hsz (fun i hi => ?_) ?_
    · rcases Nat.lt_or_ge i n with h | h
      · exact ⟨fun _ => h, fun _ => hall i h⟩
      · rw [I.hn i h]; exact ⟨(fun h' => by cases h'), (fun h' => by omega)⟩
    · have he := relWalk_end (ops.toList.take n) Ts a0 [] (fun j => a.tmps.getD (((ops[j]?).bind (·.dst)).getD 0) undef) hlen hw w I.hb (by simp) (fun j F hF => by
        have hj : j < n := by have := (List.getElem?_eq_some_iff.1 hF).1; omega
        obtain ⟨o, ho⟩ : ∃ o, ops[j]? = some o := ⟨_, Array.getElem?_eq_getElem (by have := hok.le; omega)⟩
        have h3 := I.hT j o _ ho hF (hall j hj)
        simp only [ho, Option.bind_some]
        exact h3)
      have hA : a = lexA (ops.toList.take n) Ts (fun j => a.tmps.getD (((ops[j]?).bind (·.dst)).getD 0) undef) (ops.toList.take n).length a0 := by
        rw [hlen, hl]
        have h1 : a.tmps = (lexA (ops.toList.take n) Ts (fun j => a.tmps.getD (((ops[j]?).bind (·.dst)).getD 0) undef) n a0).tmps := by
          apply Array.ext'
          apply List.ext_getElem?
          intro t
          rw [Array.getElem?_toList, Array.getElem?_toList]
          exact same n listed a w I (Nat.le_refl _) t (fun j o hj _ _ => hall j hj) (fun j o hj _ _ => I.hn j hj)
        have h2 := lexA_defers (ops.toList.take n) Ts (fun j => a.tmps.getD (((ops[j]?).bind (·.dst)).getD 0) undef) n a0
        cases a with
        | mk tm df =>
          cases hx : lexA (ops.toList.take n) Ts (fun j => (Act.mk tm df).tmps.getD (((ops[j]?).bind (·.dst)).getD 0) undef) n a0 with
          | mk tm' df' =>
            rw [hx] at h1 h2
            have h3 := I.hd
            simp only at h1 h2 h3
            rw [h1, h3, h2]
      rw [← hA] at he
      exact he
  intro fuel
  induction fuel with
  | zero =>
    intro listed a w I hf
    refine full 0 listed a w I hf fun i hi => ?_
    cases h : listed.getD i false with
    | true => rfl
    | false =>
      exfalso
      have : i ∈ (List.range ops.size).filter (fun i => !listed.getD i false) := by
        simp only [List.mem_filter, List.mem_range]
        exact ⟨by have := hok.le; omega, by rw [h]; rfl⟩
      unfold unl at hf
      rw [List.length_eq_zero_iff.1 hf] at this
      simp at this
  | succ fuel ih =>
    intro listed a w I hf
    by_cases hall : ∀ i, i < n → listed.getD i false = true
    · exact full (fuel + 1) listed a w I hf hall
    · have hex : ∃ k, k < n ∧ listed.getD k false = false ∧ ∀ j, j < k → listed.getD j false = true := by
        have : ∃ k, k < n ∧ listed.getD k false = false := by
          apply Classical.byContradiction
          intro hne
          apply hall
          intro i hi
          cases h : listed.getD i false with
          | true => rfl
          | false => exact absurd ⟨i, hi, h⟩ hne
        obtain ⟨k, hk1, hk2⟩ := this
        induction k using Nat.strongRecOn with
        | ind k ihk =>
          by_cases hj : ∀ j, j < k → listed.getD j false = true
          · exact ⟨k, hk1, hk2, hj⟩
          · obtain ⟨j, hj1, hj2⟩ : ∃ j, j < k ∧ listed.getD j false = false := by
              apply Classical.byContradiction
              intro hne
              apply hj
              intro j hjk
              cases h : listed.getD j false with
              | true => rfl
              | false => exact absurd ⟨j, hjk, h⟩ hne
            exact ihk j hj1 (by omega) hj2
      obtain ⟨k, hkn, hkl, hkm⟩ := hex
      have rdy : ∀ i, i ∈ Region.ready .any ops listed ↔ i < ops.size ∧ listed.getD i false = false ∧ ∀ (o : Oper), ops[i]? = some o → ∀ e ∈ o.after, Region.binds .any e = true → listed.getD e.on false = true := by
        intro i
        unfold Region.ready
        simp only [List.mem_filter, List.mem_range, Bool.and_eq_true, Bool.not_eq_true']
        constructor
        · rintro ⟨h1, h2, h3⟩
          refine ⟨h1, ?_, fun o ho e he hb => ?_⟩
          · rw [Array.getD_eq_getD_getElem?, Array.getElem?_eq_getElem (by rw [I.hsz]; exact h1)] at h2 ⊢; exact h2
          · rw [ho] at h3
            simp only [Option.map_some, Option.getD_some, Array.all_eq_true_iff_forall_mem, Bool.or_eq_true, Bool.not_eq_true'] at h3
            rcases h3 e he with h | h
            · rw [hb] at h; cases h
            · exact h
        · rintro ⟨h1, h2, h3⟩
          refine ⟨h1, ?_, ?_⟩
          · rw [Array.getD_eq_getD_getElem?, Array.getElem?_eq_getElem (by rw [I.hsz]; exact h1)] at h2 ⊢; exact h2
          · rw [Array.getElem?_eq_getElem h1]
            simp only [Option.map_some, Option.getD_some, Array.all_eq_true_iff_forall_mem, Bool.or_eq_true, Bool.not_eq_true']
            intro e he
            cases hb : Region.binds .any e with
            | false => exact .inl rfl
            | true => exact .inr (h3 _ (Array.getElem?_eq_getElem h1) e he hb)
      refine ⟨fun hr => ?_, fun i hi => ?_⟩
      · exfalso
        have : k ∈ Region.ready .any ops listed := (rdy k).2 ⟨by have := hok.le; omega, hkl, fun o ho e he hb => hkm _ (hok.early k o ho e he)⟩
        rw [hr] at this
        simp at this
      · obtain ⟨hi1, hi2, hi3⟩ := (rdy i).1 hi
        obtain ⟨o, ho⟩ : ∃ o, ops[i]? = some o := ⟨_, Array.getElem?_eq_getElem hi1⟩
        have hdep : ∀ j, depB (rmasks ops.toList []) i j = true → j ≠ i → listed.getD j false = true := by
          intro j hd hji
          have := dep_closed (ops := ops) (S := fun k => listed.getD k false = true ∨ k = i) (fun k o' ho' hk' e he hb => by
            rcases hk' with hk' | rfl
            · exact .inl (I.hcl k o' ho' hk' e he hb)
            · exact .inl (hi3 o' ho' e he hb)) (.inr rfl) hd
          exact this.resolve_right hji
        have hin : i < n := by
          rcases Nat.lt_or_ge i n with h | h
          · exact h
          · have := hdep k (hok.tail i o ho h k (by omega)) (by omega)
            rw [hkl] at this; cases this
        obtain ⟨T, hT⟩ := hTs i hin
        have hup : ∀ j, i < j → depB (rmasks ops.toList []) j i = true → listed.getD j false = false := by
          intro j hij hd
          cases h : listed.getD j false with
          | false => rfl
          | true => have h' : listed.getD i false = true := dep_closed I.hcl h hd; rw [hi2] at h'; cases h'
        have hsame : ∀ t ∈ o.looksAt ops, a.tmps[t]? = (lexA (ops.toList.take n) Ts (fun j => a.tmps.getD (((ops[j]?).bind (·.dst)).getD 0) undef) i a0).tmps[t]? := by
          intro t ht
          refine same i listed a w I (by omega) t (fun j o' hj ho' hd => ?_) (fun j o' hj ho' hd => ?_)
          · exact hdep j ((hok.looks i o ho hin t ht j o' ho' hd).1 hj) (by omega)
          · by_cases hji : j = i
            · rw [hji]; exact hi2
            · exact hup j (by omega) ((hok.looks i o ho hin t ht j o' ho' hd).2 (by omega))
        have hop := relWalk_at (ops.toList.take n) Ts a0 [] (fun j => a.tmps.getD (((ops[j]?).bind (·.dst)).getD 0) undef) i o T hw ((hos i o hin).2 ho) hT w I.hb (fun p hp => by simp at hp) (fun j o' F hj ho' hF hd => by
          have ho'' := (hos j o' (by omega)).1 ho'
          obtain ⟨t', hd', _, _⟩ := hok.dst j o' ho'' (by omega)
          rw [hd', Option.getD_some] at hd
          have h3 := I.hT j o' _ ho'' hF (hdep j ((hok.looks i o ho hin t' hd j o' ho'' hd').1 hj) (by omega))
          simp only [ho'', Option.bind_some]
          exact h3)
        have hunl : unl (listed.setIfInBounds i true) ops.size = fuel := by
          have h1 := filter_one (fun j => !listed.getD j false) (fun j => !(listed.setIfInBounds i true).getD j false) i (by simp [hi2]) (by rw [getD_set _ _ _ (by rw [I.hsz]; exact hi1), if_pos rfl]; rfl) (fun j hj => by rw [getD_set _ _ _ (by rw [I.hsz]; exact hi1), if_neg hj]) ops.size hi1
          unfold unl at hf ⊢
          omega
        have hgo : ∀ v w', Stay w0.heap.size w w' → ttHolds T v w' → wpAny P .any ops Q fuel (listed.setIfInBounds i true) (a.put o.dst v) w' := fun v w' h1 h2 =>
          ih _ _ _ (I.step hok hk ho hT hin (hi3 o ho) h1 h2) hunl
        unfold relOp at hop
        rw [← wanted_congr hsame, ← eval_congr (ops := ops) (hok.nosel i o · · ho) hsame] at hop
        unfold wpOp
        rw [ho]
        simp only
        split
        · rename_i hwa
          rw [if_pos hwa] at hop
          refine .inl ?_
          unfold Oper.wp
          cases hrun : (execOp a.eval o).run P w with
          | halt h w' => rw [hrun] at hop; simp [relUpon] at hop
          | ok x w' =>
            rw [hrun] at hop
            cases x with
            | value v => exact hgo v w' hop.1 hop.2
            | enter f args =>
              obtain ⟨rfl, hc⟩ := hop
              refine hc.mono ?_
              rintro e w'' ⟨v, rfl, h1, h2⟩
              exact hgo v w'' h1 h2
            | _ => simp [relUpon] at hop
        · rename_i hwa
          rw [if_neg hwa] at hop
          exact hgo undef w (Stay.refl _ _) hop

/-- ONE WALK IN THE TEXT's ORDER SERVES EVERY ORDER. -/
theorem wp_region_rel {P : Program} {id : Nat} {Q : Exit → Act → World → Prop} {a : Act} {w : World} {l : List Oper} (n : Nat) (Ts : List TT) (hm : P.follows .mixedOrders = true) (hB : relOkB l.toArray n a.tmps.size = true) (hl : Ts.length = n)
    (h : relWalk P l.toArray w (fun a' w' => wpList P l.toArray Q (l.drop n) a' w') (l.take n) Ts a []) : (Code.region id l.toArray true).wp P Q a w := by
  have hok := relOk_of hB
  refine wp_region_any hm (relFront (w0 := w) (a0 := a) hok hl h _ _ a w.drew ⟨(Below.refl _ _).drew, rfl, rfl, by simp, ?_, ?_, ?_, ?_⟩ ?_)
  · intro k o ho hk
    exfalso
    simp only [Array.getD_eq_getD_getElem?] at hk
    by_cases h : k < l.length <;> simp [h] at hk
  · intro i hi; simp [Array.getD_eq_getD_getElem?]
    by_cases h : i < l.length <;> simp [h]
  · intro i o T ho hT hk
    exfalso
    rw [Array.getD_eq_getD_getElem?] at hk
    by_cases h : i < l.length <;> simp [h] at hk
  · intro t _; rfl
  · unfold unl
    rw [List.filter_congr (q := fun _ => true) (fun i hi => by
      rw [Array.getD_eq_getD_getElem?]
      by_cases h : i < l.length <;> simp [h]), List.filter_eq_self.2 (fun _ _ => rfl)]
    simp
end Go.Proofs.YtkdkpnidiehdfaaDoor
