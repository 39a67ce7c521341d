/- the law for drawn regions (XSg), inside the wide fence. -/
import Derived.OrdersIn
import Derived.TacticsIn
import Derived.Test.YtkdkpnidiehdfaaDoorSg
set_option linter.unusedSimpArgs false
set_option linter.unusedVariables false
namespace Go.Proofs.YtkdkpnidiehdfaaDoor
open Go.RowKit

/-- the tail goes in one order. -/
theorem relTailIn {nn : Nat} {P : Program} {ops : Array Oper} {n sz : Nat} {Q : Exit → Act → World → Prop} (hok : RelOk ops n sz) : ∀ (l : List Oper) (m : Nat) (listed : Array Bool) (a : Act) (w : World), n ≤ m → m + l.length = ops.size → l = ops.toList.drop m →
    listed.size = ops.size → (∀ i, i < ops.size → (listed.getD i false = true ↔ i < m)) → wpListIn Fence.wide nn P ops Q l a w → wpAnyIn Fence.wide nn P .any ops Q l.length listed a w := by
  intro l
  induction l with
  | nil =>
    intro m listed a w hm hs hl hsz hL h
    refine ⟨?_, h⟩
    unfold Region.ready
    rw [List.filter_eq_nil_iff]
    intro i hi
    have hi' : i < ops.size := by simpa using hi
    have := (hL i hi').2 (by simp at hs; omega)
    have e : listed.getD i true = true := by
      rw [Array.getD_eq_getD_getElem?, Array.getElem?_eq_getElem (by omega)] at this ⊢; simpa using this
    rw [e]; simp
  | cons o l ih =>
    intro m listed a w hm hs hl hsz hL h
    simp only [List.length_cons] at hs
    have hmlt : m < ops.size := by omega
    have ho : ops[m]? = some o := by
      have := congrArg (·[0]?) hl
      simpa using this.symm
    have hl' : l = ops.toList.drop (m + 1) := by
      have := congrArg List.tail hl
      simpa using this
    have hready : ∀ i ∈ Region.ready .any ops listed, i = m := by
      intro i hi
      unfold Region.ready at hi
      simp only [List.mem_filter, List.mem_range, Bool.and_eq_true, Bool.not_eq_true'] at hi
      obtain ⟨hi1, hi2, hi3⟩ := hi
      obtain ⟨oi, hoi⟩ : ∃ oi, ops[i]? = some oi := ⟨_, Array.getElem?_eq_getElem hi1⟩
      rw [hoi] at hi3
      simp only [Option.map_some, Option.getD_some, Array.all_eq_true_iff_forall_mem, Bool.or_eq_true, Bool.not_eq_true'] at hi3
      have hnl : ¬ i < m := fun h' => by
        have := (hL i hi1).2 h'
        rw [Array.getD_eq_getD_getElem?, Array.getElem?_eq_getElem (by omega)] at this hi2
        simp at this hi2; rw [this] at hi2; cases hi2
      by_cases him : i = m
      · exact him
      · exfalso
        have hd := hok.tail i oi hoi (by omega) m (by omega)
        have := dep_closed (ops := ops) (S := fun k => k < m ∨ k = i) (fun k o' ho' hk e he hb => by
          rcases hk with hk | rfl
          · exact .inl (Nat.lt_trans (hok.early k o' ho' e he) hk)
          · rw [hoi] at ho'; cases ho'
            rcases hi3 e he with h' | h'
            · rw [hb] at h'; cases h'
            · exact .inl ((hL e.on (Nat.lt_trans (hok.early _ _ hoi e he) hi1)).1 h')) (.inr rfl) hd
        omega
    refine ⟨?_, ?_⟩
    · intro hr
      exfalso
      have : m ∈ Region.ready .any ops listed := by
        unfold Region.ready
        simp only [List.mem_filter, List.mem_range, Bool.and_eq_true, Bool.not_eq_true']
        refine ⟨hmlt, ?_, ?_⟩
        · have : ¬ (listed.getD m false = true) := fun h' => by have := (hL m hmlt).1 h'; omega
          rw [Array.getD_eq_getD_getElem?, Array.getElem?_eq_getElem (by omega)] at this ⊢
          simpa using this
        · rw [ho]
          simp only [Option.map_some, Option.getD_some, Array.all_eq_true_iff_forall_mem, Bool.or_eq_true]
          intro e he
          have h1 := hok.early m o ho e he
          exact .inr ((hL e.on (by omega)).2 h1)
      rw [hr] at this
      simp at this
    · intro i hi
      obtain rfl := hready i hi
      have hstep : ∀ a w, wpListIn Fence.wide nn P ops Q l a w → wpAnyIn Fence.wide nn P .any ops Q l.length (listed.setIfInBounds i true) a w := fun a w h' =>
        ih (i + 1) (listed.setIfInBounds i true) a w (by omega) (by omega) hl' (by simpa using hsz) (fun j hj => by
          have h0 := hL j hj
          rw [Array.getD_eq_getD_getElem?] at h0 ⊢
          by_cases hji : j = i
          · subst hji
            rw [Array.getElem?_setIfInBounds_self_of_lt (by omega)]; simp
          · rw [Array.getElem?_setIfInBounds_ne (fun e => hji e.symm), h0]; omega) h'
      unfold wpOpIn
      rw [ho]
      simp only
      unfold wpListIn at h
      split
      · rename_i hw
        rw [if_pos hw] at h
        exact Oper.wpIn_mono hstep h
      · rename_i hw
        rw [if_neg hw] at h
        exact ⟨h.1, hstep _ _ h.2⟩

theorem relFrontSIn {nn : Nat} {P : Program} {ops : Array Oper} {n : Nat} {Q : Exit → Act → World → Prop} {w0 : World} {a0 : Act} {Ts : List TT} (hok : RelOk ops n a0.tmps.size) (hl : Ts.length = n)
    (hw : relWalkS P ops w0 (fun a w => wpListIn Fence.wide nn P ops Q (ops.toList.drop n) a w) (ops.toList.take n) Ts a0 []) :
    ∀ (fuel : Nat) (listed : Array Bool) (a : Act) (w : World), RelInvS ops w0 a0 Ts n listed a w → unl listed ops.size = fuel → wpAnyIn Fence.wide nn P .any ops Q fuel listed a w := by
  have hlen : (ops.toList.take n).length = Ts.length := by rw [hl]; have := hok.le; simp; omega
  have hk := relWalk_keepsS _ _ _ _ hlen hw
  have hTs : ∀ i, i < n → ∃ T, Ts[i]? = some T := fun i hi => ⟨_, List.getElem?_eq_getElem (by omega)⟩
  have hos : ∀ i (o : Oper), i < n → ((ops.toList.take n)[i]? = some o ↔ ops[i]? = some o) := fun i o hi => by simp [List.getElem?_take, hi]
  -- a frame in which each of the first k slots holds what was left in it
  have same : ∀ (k : Nat) (listed : Array Bool) (a : Act) (w : World), RelInvS ops w0 a0 Ts n listed a w → k ≤ n → ∀ t,
      (∀ (j : Nat) (o : Oper), j < k → ops[j]? = some o → o.dst = some t → listed.getD j false = true) → (∀ (j : Nat) (o : Oper), k ≤ j → ops[j]? = some o → o.dst = some t → listed.getD j false = false) →
      a.tmps[t]? = (lexA (ops.toList.take n) Ts (fun j => a.tmps.getD (((ops[j]?).bind (·.dst)).getD 0) undef) k a0).tmps[t]? := by
    intro k listed a w I hkn t h1 h2
    by_cases hex : ∃ (j : Nat) (o : Oper), j < k ∧ ops[j]? = some o ∧ o.dst = some t
    · obtain ⟨j, o, hj, ho, hd⟩ := hex
      obtain ⟨T, hT⟩ := hTs j (by omega)
      obtain ⟨t', hd', ht', hu⟩ := hok.dst j o ho (by omega)
      rw [hd] at hd'; cases hd'
      rw [lexA_get _ _ _ k a0 t j o T hj ((hos j o (by omega)).2 ho) hT hd ht' (fun i o' hi hik ho' => hu i o' ((hos i o' (by omega)).1 ho') (by omega))]
      have h3 := I.hT j o T ho hT (h1 j o hj ho hd)
      rw [hd, Option.getD_some] at h3
      have h4 : a.tmps[t]? = some (a.tmps.getD t undef) := by
        rw [Array.getD_eq_getD_getElem?, Array.getElem?_eq_getElem (by rw [I.hs]; exact ht')]; rfl
      rw [h4]
      simp only [ho, Option.bind_some, hd, Option.getD_some]
      cases T with
      | inl c => exact congrArg some h3
      | inr F => rfl
    · rw [lexA_ne _ _ _ k a0 t (fun j o hj ho hd => hex ⟨j, o, hj, (hos j o (by omega)).1 ho, hd⟩)]
      refine I.h0 t fun j o ho hlj hd => ?_
      rcases Nat.lt_or_ge j k with h | h
      · exact hex ⟨j, o, h, ho, hd⟩
      · rw [h2 j o h ho hd] at hlj; cases hlj
  have full : ∀ (fuel : Nat) (listed : Array Bool) (a : Act) (w : World), RelInvS ops w0 a0 Ts n listed a w → unl listed ops.size = fuel → (∀ i, i < n → listed.getD i false = true) → wpAnyIn Fence.wide nn P .any ops Q fuel listed a w := by
    intro fuel listed a w I hf hall
    have hfu : (ops.toList.drop n).length = fuel := by
      rw [← hf]
      unfold unl
      rw [List.filter_congr (q := fun i => decide (n ≤ i)) (fun i hi => by
        by_cases h : n ≤ i
        · rw [I.hn i h]; simp [h]
        · rw [hall i (by omega)]; simp [h]), filter_ge]
      simp
    rw [← hfu]
    refine relTailIn hok (ops.toList.drop n) n listed a w (Nat.le_refl _) (by have := hok.le; simp; omega) rfl I.hsz (fun i hi => ?_) ?_
    · rcases Nat.lt_or_ge i n with h | h
      · exact ⟨fun _ => h, fun _ => hall i h⟩
      · rw [I.hn i h]; exact ⟨(fun h' => by cases h'), (fun h' => by omega)⟩
    · have he := relWalk_endS (ops.toList.take n) Ts a0 [] (fun j => a.tmps.getD (((ops[j]?).bind (·.dst)).getD 0) undef) hlen hw w I.hb (by simp) (fun j F hF => by
        have hj : j < n := by have := (List.getElem?_eq_some_iff.1 hF).1; omega
        obtain ⟨o, ho⟩ : ∃ o, ops[j]? = some o := ⟨_, Array.getElem?_eq_getElem (by have := hok.le; omega)⟩
        have h3 := I.hT j o _ ho hF (hall j hj)
        simp only [ho, Option.bind_some]
        exact h3)
      have hA : a = lexA (ops.toList.take n) Ts (fun j => a.tmps.getD (((ops[j]?).bind (·.dst)).getD 0) undef) (ops.toList.take n).length a0 := by
        rw [hlen, hl]
        have h1 : a.tmps = (lexA (ops.toList.take n) Ts (fun j => a.tmps.getD (((ops[j]?).bind (·.dst)).getD 0) undef) n a0).tmps := by
          apply Array.ext'
          apply List.ext_getElem?
          intro t
          rw [Array.getElem?_toList, Array.getElem?_toList]
          exact same n listed a w I (Nat.le_refl _) t (fun j o hj _ _ => hall j hj) (fun j o hj _ _ => I.hn j hj)
        have h2 := lexA_defers (ops.toList.take n) Ts (fun j => a.tmps.getD (((ops[j]?).bind (·.dst)).getD 0) undef) n a0
        cases a with
        | mk tm df =>
          cases hx : lexA (ops.toList.take n) Ts (fun j => (Act.mk tm df).tmps.getD (((ops[j]?).bind (·.dst)).getD 0) undef) n a0 with
          | mk tm' df' =>
            rw [hx] at h1 h2
            have h3 := I.hd
            simp only at h1 h2 h3
            rw [h1, h3, h2]
      rw [← hA] at he
      exact he
  intro fuel
  induction fuel with
  | zero =>
    intro listed a w I hf
    refine full 0 listed a w I hf fun i hi => ?_
    cases h : listed.getD i false with
    | true => rfl
    | false =>
      exfalso
      have : i ∈ (List.range ops.size).filter (fun i => !listed.getD i false) := by
        simp only [List.mem_filter, List.mem_range]
        exact ⟨by have := hok.le; omega, by rw [h]; rfl⟩
      unfold unl at hf
      rw [List.length_eq_zero_iff.1 hf] at this
      simp at this
  | succ fuel ih =>
    intro listed a w I hf
    by_cases hall : ∀ i, i < n → listed.getD i false = true
    · exact full (fuel + 1) listed a w I hf hall
    · have hex : ∃ k, k < n ∧ listed.getD k false = false ∧ ∀ j, j < k → listed.getD j false = true := by
        have : ∃ k, k < n ∧ listed.getD k false = false := by
          apply Classical.byContradiction
          intro hne
          apply hall
          intro i hi
          cases h : listed.getD i false with
          | true => rfl
          | false => exact absurd ⟨i, hi, h⟩ hne
        obtain ⟨k, hk1, hk2⟩ := this
        induction k using Nat.strongRecOn with
        | ind k ihk =>
          by_cases hj : ∀ j, j < k → listed.getD j false = true
          · exact ⟨k, hk1, hk2, hj⟩
          · obtain ⟨j, hj1, hj2⟩ : ∃ j, j < k ∧ listed.getD j false = false := by
              apply Classical.byContradiction
              intro hne
              apply hj
              intro j hjk
              cases h : listed.getD j false with
              | true => rfl
              | false => exact absurd ⟨j, hjk, h⟩ hne
            exact ihk j hj1 (by omega) hj2
      obtain ⟨k, hkn, hkl, hkm⟩ := hex
      have rdy : ∀ i, i ∈ Region.ready .any ops listed ↔ i < ops.size ∧ listed.getD i false = false ∧ ∀ (o : Oper), ops[i]? = some o → ∀ e ∈ o.after, Region.binds .any e = true → listed.getD e.on false = true := by
        intro i
        unfold Region.ready
        simp only [List.mem_filter, List.mem_range, Bool.and_eq_true, Bool.not_eq_true']
        constructor
        · rintro ⟨h1, h2, h3⟩
          refine ⟨h1, ?_, fun o ho e he hb => ?_⟩
          · rw [Array.getD_eq_getD_getElem?, Array.getElem?_eq_getElem (by rw [I.hsz]; exact h1)] at h2 ⊢; exact h2
          · rw [ho] at h3
            simp only [Option.map_some, Option.getD_some, Array.all_eq_true_iff_forall_mem, Bool.or_eq_true, Bool.not_eq_true'] at h3
            rcases h3 e he with h | h
            · rw [hb] at h; cases h
            · exact h
        · rintro ⟨h1, h2, h3⟩
          refine ⟨h1, ?_, ?_⟩
          · rw [Array.getD_eq_getD_getElem?, Array.getElem?_eq_getElem (by rw [I.hsz]; exact h1)] at h2 ⊢; exact h2
          · rw [Array.getElem?_eq_getElem h1]
            simp only [Option.map_some, Option.getD_some, Array.all_eq_true_iff_forall_mem, Bool.or_eq_true, Bool.not_eq_true']
            intro e he
            cases hb : Region.binds .any e with
            | false => exact .inl rfl
            | true => exact .inr (h3 _ (Array.getElem?_eq_getElem h1) e he hb)
      refine ⟨fun hr => ?_, fun i hi => ?_⟩
      · exfalso
        have : k ∈ Region.ready .any ops listed := (rdy k).2 ⟨by have := hok.le; omega, hkl, fun o ho e he hb => hkm _ (hok.early k o ho e he)⟩
        rw [hr] at this
        simp at this
      · obtain ⟨hi1, hi2, hi3⟩ := (rdy i).1 hi
        obtain ⟨o, ho⟩ : ∃ o, ops[i]? = some o := ⟨_, Array.getElem?_eq_getElem hi1⟩
        have hdep : ∀ j, depB (rmasks ops.toList []) i j = true → j ≠ i → listed.getD j false = true := by
          intro j hd hji
          have := dep_closed (ops := ops) (S := fun k => listed.getD k false = true ∨ k = i) (fun k o' ho' hk' e he hb => by
            rcases hk' with hk' | rfl
            · exact .inl (I.hcl k o' ho' hk' e he hb)
            · exact .inl (hi3 o' ho' e he hb)) (.inr rfl) hd
          exact this.resolve_right hji
        have hin : i < n := by
          rcases Nat.lt_or_ge i n with h | h
          · exact h
          · have := hdep k (hok.tail i o ho h k (by omega)) (by omega)
            rw [hkl] at this; cases this
        obtain ⟨T, hT⟩ := hTs i hin
        have hup : ∀ j, i < j → depB (rmasks ops.toList []) j i = true → listed.getD j false = false := by
          intro j hij hd
          cases h : listed.getD j false with
          | false => rfl
          | true => have h' : listed.getD i false = true := dep_closed I.hcl h hd; rw [hi2] at h'; cases h'
        have hsame : ∀ t ∈ o.looksAt ops, a.tmps[t]? = (lexA (ops.toList.take n) Ts (fun j => a.tmps.getD (((ops[j]?).bind (·.dst)).getD 0) undef) i a0).tmps[t]? := by
          intro t ht
          refine same i listed a w I (by omega) t (fun j o' hj ho' hd => ?_) (fun j o' hj ho' hd => ?_)
          · exact hdep j ((hok.looks i o ho hin t ht j o' ho' hd).1 hj) (by omega)
          · by_cases hji : j = i
            · rw [hji]; exact hi2
            · exact hup j (by omega) ((hok.looks i o ho hin t ht j o' ho' hd).2 (by omega))
        have hop := relWalk_atS (ops.toList.take n) Ts a0 [] (fun j => a.tmps.getD (((ops[j]?).bind (·.dst)).getD 0) undef) i o T hw ((hos i o hin).2 ho) hT w I.hb (fun p hp => by simp at hp) (fun j o' F hj ho' hF hd => by
          have ho'' := (hos j o' (by omega)).1 ho'
          obtain ⟨t', hd', _, _⟩ := hok.dst j o' ho'' (by omega)
          rw [hd', Option.getD_some] at hd
          have h3 := I.hT j o' _ ho'' hF (hdep j ((hok.looks i o ho hin t' hd j o' ho'' hd').1 hj) (by omega))
          simp only [ho'', Option.bind_some]
          exact h3)
        have hunl : unl (listed.setIfInBounds i true) ops.size = fuel := by
          have h1 := filter_one (fun j => !listed.getD j false) (fun j => !(listed.setIfInBounds i true).getD j false) i (by simp [hi2]) (by rw [getD_set _ _ _ (by rw [I.hsz]; exact hi1), if_pos rfl]; rfl) (fun j hj => by rw [getD_set _ _ _ (by rw [I.hsz]; exact hi1), if_neg hj]) ops.size hi1
          unfold unl at hf ⊢
          omega
        have hgo : ∀ v w', StayS w0.heap.size w w' → ttHolds T v w' → wpAnyIn Fence.wide nn P .any ops Q fuel (listed.setIfInBounds i true) (a.put o.dst v) w' := fun v w' h1 h2 =>
          ih _ _ _ (I.step hok hk ho hT hin (hi3 o ho) h1 h2) hunl
        unfold relOpS at hop
        rw [← wanted_congr hsame, ← eval_congr (ops := ops) (hok.nosel i o · · ho) hsame] at hop
        unfold wpOpIn
        rw [ho]
        simp only
        split
        · rename_i hwa
          rw [if_pos hwa] at hop
          refine ⟨fun _ _ => trivial, ?_⟩
          rw [Fence.wide_round, Oper.semAt_none]
          cases hrun : (execOp a.eval o).run P w with
          | halt h w' => rw [hrun] at hop; simp [relUponS] at hop
          | ok x w' =>
            rw [hrun] at hop
            cases x with
            | value v => rw [Oper.uponIn_value]; exact hgo v w' hop.1 hop.2
            | enter f args =>
              obtain ⟨rfl, hc⟩ := hop
              rw [Oper.uponIn_enter]
              refine ⟨fun h => (by cases h), (callsIn_wide.2 hc).mono ?_⟩
              rintro e w'' ⟨v, rfl, h1, h2⟩
              exact hgo v w'' h1 h2
            | _ => simp [relUponS] at hop
        · rename_i hwa
          rw [if_neg hwa] at hop
          exact ⟨fun _ _ => trivial, hgo undef w (StayS.refl _ _) hop⟩

/-- ONE WALK IN THE TEXT's ORDER SERVES EVERY ORDER. -/
theorem wpIn_region_relS {nn : Nat} {P : Program} {id : Nat} {Q : Exit → Act → World → Prop} {a : Act} {w : World} {l : List Oper} (n : Nat) (Ts : List TT) (hm : P.follows .mixedOrders = true) (hB : relOkB l.toArray n a.tmps.size = true) (hl : Ts.length = n)
    (h : relWalkS P l.toArray w (fun a' w' => wpListIn Fence.wide nn P l.toArray Q (l.drop n) a' w') (l.take n) Ts a []) : (Code.region id l.toArray true).wpIn Fence.wide nn P Q a w := by
  have hok := relOk_of hB
  refine wpIn_region_any hm (relFrontSIn (w0 := w) (a0 := a) hok hl h _ _ a w.drew ⟨(Below.refl _ _).drew, rfl, rfl, by simp, ?_, ?_, ?_, ?_⟩ ?_)
  · intro k o ho hk
    exfalso
    simp only [Array.getD_eq_getD_getElem?] at hk
    by_cases h : k < l.length <;> simp [h] at hk
  · intro i hi; simp [Array.getD_eq_getD_getElem?]
    by_cases h : i < l.length <;> simp [h]
  · intro i o T ho hT hk
    exfalso
    rw [Array.getD_eq_getD_getElem?] at hk
    by_cases h : i < l.length <;> simp [h] at hk
  · intro t _; rfl
  · unfold unl
    rw [List.filter_congr (q := fun _ => true) (fun i hi => by
      rw [Array.getD_eq_getD_getElem?]
      by_cases h : i < l.length <;> simp [h]), List.filter_eq_self.2 (fun _ _ => rfl)]
    simp

end Go.Proofs.YtkdkpnidiehdfaaDoor
