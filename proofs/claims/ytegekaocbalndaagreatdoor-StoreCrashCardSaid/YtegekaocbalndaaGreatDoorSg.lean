/- drawn regions whose operations read, call and make memory: as XRel, but what is there stays to the mark (no '[]byte(..)' of a constant). -/
import Derived.Test.YtegekaocbalndaaGreatDoorRelz
set_option linter.unusedSimpArgs false
set_option linter.unusedVariables false
namespace Go.Proofs.YtegekaocbalndaaGreatDoor
open Go.RowKit

/-- all that was there is as it was. -/
def Ext (w w' : World) : Prop := Below w.heap.size w w'
theorem Ext.refl (w : World) : Ext w w := Below.refl _ _
theorem Ext.trans {a b c : World} (h1 : Ext a b) (h2 : Ext b c) : Ext a c := Below.trans h1 (Below.mono h2 (Below.size h1))
theorem Ext.size {a b : World} (h : Ext a b) : a.heap.size ≤ b.heap.size := Below.size h
structure StayS (B : Nat) (w w' : World) : Prop where
  below : Below B w w'
  ext : Below w.heap.size w w'
theorem StayS.refl (B : Nat) (w : World) : StayS B w w := ⟨Below.refl _ _, Below.refl _ _⟩
theorem StayS.of {B : Nat} {w w' : World} (h : Below w.heap.size w w') (hB : B ≤ w.heap.size) : StayS B w w' := ⟨h.mono hB, h⟩
def KeepsS (F : Value → World → Prop) : Prop := ∀ v w w', F v w → Below w.heap.size w w' → F v w'
def ttKeepsS (T : TT) : Prop := match T with
  | .inl _ => True
  | .inr F => KeepsS F
theorem ttKeepsS.on {T : TT} (h : ttKeepsS T) {v : Value} {B : Nat} {w w' : World} (hv : ttHolds T v w) (hb : StayS B w w') : ttHolds T v w' := by
  cases T with
  | inl c => exact hv
  | inr F => exact h v w w' hv hb.ext
def relUponS (P : Program) (B : Nat) (T : TT) (w : World) : Result Next → Prop
  | .ok (.value v) w' => StayS B w w' ∧ ttHolds T v w'
  | .ok (.enter f args) w' => w' = w ∧ Calls P f args w (fun e w'' => ∃ v, e = .returned v ∧ StayS B w w'' ∧ ttHolds T v w'')
  | _ => False
def relOpS (P : Program) (B : Nat) (ops : Array Oper) (o : Oper) (a : Act) (T : TT) (w : World) : Prop :=
  if Region.wanted o (yielded ops a.tmps) then relUponS P B T w ((execOp a.eval o).run P w) else ttHolds T undef w
def relWalkS (P : Program) (ops : Array Oper) (w0 : World) (fin : Act → World → Prop) : List Oper → List TT → Act → List (Tmp × (World → Prop)) → Prop
  | o :: os, T :: Ts, a, Φ => (∀ w, Below w0.heap.size w0 w → factsOn Φ (o.looksAt ops) w → relOpS P w0.heap.size ops o a T w) ∧
      (match T with
       | .inl c => relWalkS P ops w0 fin os Ts (a.put o.dst c) Φ
       | .inr F => KeepsS F ∧ ∀ v, relWalkS P ops w0 fin os Ts (a.put o.dst v) (Φ ++ [(o.dst.getD 0, F v)]))
  | _, _, a, Φ => ∀ w, Below w0.heap.size w0 w → (∀ p ∈ Φ, p.2 w) → fin a w


section
variable {P : Program} {ops : Array Oper} {w0 : World} {fin : Act → World → Prop}
theorem relWalk_atS : ∀ (os : List Oper) (Ts : List TT) (a : Act) (Φ : List (Tmp × (World → Prop))) (vs : Nat → Value) (k : Nat) (o : Oper) (T : TT), relWalkS P ops w0 fin os Ts a Φ → os[k]? = some o → Ts[k]? = some T →
    ∀ w, Below w0.heap.size w0 w → factsOn Φ (o.looksAt ops) w → (∀ j o' F, j < k → os[j]? = some o' → Ts[j]? = some (Sum.inr F : TT) → o'.dst.getD 0 ∈ o.looksAt ops → F (vs j) w) → relOpS P w0.heap.size ops o (lexA os Ts vs k a) T w
  | [], _, _, _, _, _, _, _, _, h, _ => by simp at h
  | _ :: _, [], _, _, _, _, _, _, _, _, h => by simp at h
  | o :: os, T :: Ts, a, Φ, vs, 0, o', T', h, ho, hT => by
    simp only [List.getElem?_cons_zero, Option.some.injEq] at ho hT
    subst ho hT
    intro w hb hf _
    simp only [lexA]
    exact h.1 w hb hf
  | o :: os, T :: Ts, a, Φ, vs, k + 1, o', T', h, ho, hT => by
    intro w hb hf hF
    simp only [lexA]
    cases T with
    | inl c => exact relWalk_atS os Ts _ Φ (fun j => vs (j + 1)) k o' T' h.2 (by simpa using ho) (by simpa using hT) w hb hf (fun j o'' F hj h1 h2 h3 => hF (j + 1) o'' F (by omega) (by simpa using h1) (by simpa using h2) h3)
    | inr F0 =>
      refine relWalk_atS os Ts _ _ (fun j => vs (j + 1)) k o' T' (h.2.2 (vs 0)) (by simpa using ho) (by simpa using hT) w hb ?_ (fun j o'' F hj h1 h2 h3 => hF (j + 1) o'' F (by omega) (by simpa using h1) (by simpa using h2) h3)
      intro p hp ht
      rcases List.mem_append.1 hp with hp | hp
      · exact hf p hp ht
      · simp only [List.mem_singleton] at hp
        subst hp
        exact hF 0 o F0 (by omega) rfl rfl ht
theorem relWalk_endS : ∀ (os : List Oper) (Ts : List TT) (a : Act) (Φ : List (Tmp × (World → Prop))) (vs : Nat → Value), os.length = Ts.length → relWalkS P ops w0 fin os Ts a Φ →
    ∀ w, Below w0.heap.size w0 w → (∀ p ∈ Φ, p.2 w) → (∀ j F, Ts[j]? = some (Sum.inr F : TT) → F (vs j) w) → fin (lexA os Ts vs os.length a) w
  | [], [], a, Φ, vs, _, h => fun w hb hf _ => by simpa [lexA] using h w hb hf
  | [], _ :: _, _, _, _, h, _ => by simp at h
  | _ :: _, [], _, _, _, h, _ => by simp at h
  | o :: os, T :: Ts, a, Φ, vs, hl, h => by
    intro w hb hf hF
    simp only [List.length_cons, lexA]
    cases T with
    | inl c => exact relWalk_endS os Ts _ Φ (fun j => vs (j + 1)) (by simpa using hl) h.2 w hb hf (fun j F hj => hF (j + 1) F (by simpa using hj))
    | inr F0 =>
      refine relWalk_endS os Ts _ _ (fun j => vs (j + 1)) (by simpa using hl) (h.2.2 (vs 0)) w hb ?_ (fun j F hj => hF (j + 1) F (by simpa using hj))
      intro p hp
      rcases List.mem_append.1 hp with hp | hp
      · exact hf p hp
      · simp only [List.mem_singleton] at hp
        subst hp
        exact hF 0 F0 rfl
theorem relWalk_keepsS : ∀ (os : List Oper) (Ts : List TT) (a : Act) (Φ : List (Tmp × (World → Prop))), os.length = Ts.length → relWalkS P ops w0 fin os Ts a Φ → ∀ T ∈ Ts, ttKeepsS T
  | [], [], _, _, _, _ => fun T h => by simp at h
  | [], _ :: _, _, _, h, _ => by simp at h
  | _ :: _, [], _, _, h, _ => by simp at h
  | o :: os, T :: Ts, a, Φ, hl, h => by
    intro T' hT'
    cases T with
    | inl c =>
      rcases List.mem_cons.1 hT' with rfl | hT'
      · trivial
      · exact relWalk_keepsS os Ts _ Φ (by simpa using hl) h.2 T' hT'
    | inr F =>
      rcases List.mem_cons.1 hT' with rfl | hT'
      · exact h.2.1
      · exact relWalk_keepsS os Ts _ _ (by simpa using hl) (h.2.2 undef) T' hT'
end

structure RelInvS (ops : Array Oper) (w0 : World) (a0 : Act) (Ts : List TT) (n : Nat) (listed : Array Bool) (a : Act) (w : World) : Prop where
  hb : Below w0.heap.size w0 w
  hd : a.defers = a0.defers
  hs : a.tmps.size = a0.tmps.size
  hsz : listed.size = ops.size
  hcl : relClosed ops (fun k => listed.getD k false = true)
  hn : ∀ i, n ≤ i → listed.getD i false = false
  hT : ∀ (i : Nat) (o : Oper) (T : TT), ops[i]? = some o → Ts[i]? = some T → listed.getD i false = true → ttHolds T (a.tmps.getD (o.dst.getD 0) undef) w
  h0 : ∀ t, (∀ (i : Nat) (o : Oper), ops[i]? = some o → listed.getD i false = true → o.dst ≠ some t) → a.tmps[t]? = a0.tmps[t]?

theorem RelInvS.step {ops : Array Oper} {w0 : World} {a0 : Act} {Ts : List TT} {n : Nat} {listed : Array Bool} {a : Act} {w w' : World} (hok : RelOk ops n a0.tmps.size) (hk : ∀ T ∈ Ts, ttKeepsS T)
    (I : RelInvS ops w0 a0 Ts n listed a w) {i : Nat} {o : Oper} {T : TT} {v : Value} (ho : ops[i]? = some o) (hTi : Ts[i]? = some T) (hin : i < n) (hr : ∀ e ∈ o.after, Region.binds .any e = true → listed.getD e.on false = true)
    (hbw : StayS w0.heap.size w w') (hv : ttHolds T v w') : RelInvS ops w0 a0 Ts n (listed.setIfInBounds i true) (a.put o.dst v) w' := by
  obtain ⟨t, hd, ht, hu⟩ := hok.dst i o ho hin
  have his : i < listed.size := by rw [I.hsz]; exact (Array.getElem?_eq_some_iff.1 ho).1
  refine ⟨I.hb.trans hbw.below, by rw [hd]; exact I.hd, by rw [hd]; simpa [Act.put] using I.hs, by simpa using I.hsz, ?_, ?_, ?_, ?_⟩
  · intro k o' ho' hk' e he hbd
    simp only [getD_set _ _ _ his] at hk' ⊢
    by_cases hki : k = i
    · subst hki
      rw [ho] at ho'; cases ho'
      rw [hr e he hbd]; split <;> rfl
    · rw [if_neg hki] at hk'
      have := I.hcl k o' ho' hk' e he hbd
      split
      · rfl
      · exact this
  · intro j hj
    rw [getD_set _ _ _ his, if_neg (by omega)]
    exact I.hn j hj
  · intro j o' T' ho' hT' hl
    rw [getD_set _ _ _ his] at hl
    by_cases hji : j = i
    · subst hji
      rw [ho] at ho'; cases ho'
      rw [hTi] at hT'; cases hT'
      rw [hd, Array.getD_eq_getD_getElem?, Option.getD_some, put_get _ _ _ (by rw [I.hs]; exact ht)]
      exact hv
    · rw [if_neg hji] at hl
      have hne := hu j o' ho' hji
      have hjn : j < n := by
        rcases Nat.lt_or_ge j n with h | h
        · exact h
        · rw [I.hn j h] at hl; cases hl
      obtain ⟨t', hd', _, _⟩ := hok.dst j o' ho' hjn
      have h1 := I.hT j o' T' ho' hT' hl
      rw [hd', Option.getD_some, Array.getD_eq_getD_getElem?] at h1 ⊢
      rw [hd, put_get_ne _ _ _ _ (fun e => hne (by rw [hd', ← e]))]
      exact (hk T' (List.mem_of_getElem? hT')).on h1 hbw
  · intro t' ht'
    have hne : some t ≠ some t' := fun e => by
      have := ht' i o ho (by rw [getD_set _ _ _ his, if_pos rfl])
      exact this (by rw [hd, e])
    rw [hd, put_get_ne _ _ _ _ hne]
    exact I.h0 t' fun j o' ho' hl => ht' j o' ho' (by
      rw [getD_set _ _ _ his]
      split
      · rfl
      · exact hl)

theorem relFrontS {P : Program} {ops : Array Oper} {n : Nat} {Q : Exit → Act → World → Prop} {w0 : World} {a0 : Act} {Ts : List TT} (hok : RelOk ops n a0.tmps.size) (hl : Ts.length = n)
    (hw : relWalkS P ops w0 (fun a w => wpList P ops Q (ops.toList.drop n) a w) (ops.toList.take n) Ts a0 []) :
    ∀ (fuel : Nat) (listed : Array Bool) (a : Act) (w : World), RelInvS ops w0 a0 Ts n listed a w → unl listed ops.size = fuel → wpAny P .any ops Q fuel listed a w := by
  have hlen : (ops.toList.take n).length = Ts.length := by rw [hl]; have := hok.le; simp; omega
  have hk := relWalk_keepsS _ _ _ _ hlen hw
  have hTs : ∀ i, i < n → ∃ T, Ts[i]? = some T := fun i hi => ⟨_, List.getElem?_eq_getElem (by omega)⟩
  have hos : ∀ i (o : Oper), i < n → ((ops.toList.take n)[i]? = some o ↔ ops[i]? = some o) := fun i o hi => by simp [List.getElem?_take, hi]
  -- a frame in which each of the first k slots holds what was left in it
  have same : ∀ (k : Nat) (listed : Array Bool) (a : Act) (w : World), RelInvS ops w0 a0 Ts n listed a w → k ≤ n → ∀ t,
      (∀ (j : Nat) (o : Oper), j < k → ops[j]? = some o → o.dst = some t → listed.getD j false = true) → (∀ (j : Nat) (o : Oper), k ≤ j → ops[j]? = some o → o.dst = some t → listed.getD j false = false) →
      a.tmps[t]? = (lexA (ops.toList.take n) Ts (fun j => a.tmps.getD (((ops[j]?).bind (·.dst)).getD 0) undef) k a0).tmps[t]? := by
    intro k listed a w I hkn t h1 h2
    by_cases hex : ∃ (j : Nat) (o : Oper), j < k ∧ ops[j]? = some o ∧ o.dst = some t
    · obtain ⟨j, o, hj, ho, hd⟩ := hex
      obtain ⟨T, hT⟩ := hTs j (by omega)
      obtain ⟨t', hd', ht', hu⟩ := hok.dst j o ho (by omega)
      rw [hd] at hd'; cases hd'
      rw [lexA_get _ _ _ k a0 t j o T hj ((hos j o (by omega)).2 ho) hT hd ht' (fun i o' hi hik ho' => hu i o' ((hos i o' (by omega)).1 ho') (by omega))]
      have h3 := I.hT j o T ho hT (h1 j o hj ho hd)
      rw [hd, Option.getD_some] at h3
      have h4 : a.tmps[t]? = some (a.tmps.getD t undef) := by
        rw [Array.getD_eq_getD_getElem?, Array.getElem?_eq_getElem (by rw [I.hs]; exact ht')]; rfl
      rw [h4]
      simp only [ho, Option.bind_some, hd, Option.getD_some]
      cases T with
      | inl c => exact congrArg some h3
      | inr F => rfl
    · rw [lexA_ne _ _ _ k a0 t (fun j o hj ho hd => hex ⟨j, o, hj, (hos j o (by omega)).1 ho, hd⟩)]
      refine I.h0 t fun j o ho hlj hd => ?_
      rcases Nat.lt_or_ge j k with h | h
      · exact hex ⟨j, o, h, ho, hd⟩
      · rw [h2 j o h ho hd] at hlj; cases hlj
  have full : ∀ (fuel : Nat) (listed : Array Bool) (a : Act) (w : World), RelInvS ops w0 a0 Ts n listed a w → unl listed ops.size = fuel → (∀ i, i < n → listed.getD i false = true) → wpAny P .any ops Q fuel listed a w := by
    intro fuel listed a w I hf hall
    have hfu : (ops.toList.drop n).length = fuel := by
      rw [← hf]
      unfold unl
      rw [List.filter_congr (q := fun i => decide (n ≤ i)) (fun i hi => by
        by_cases h : n ≤ i
        · rw [I.hn i h]; simp [h]
        · rw [hall i (by omega)]; simp [h]), filter_ge]
      simp
    rw [← hfu]
    refine relTail hok (ops.toList.drop n) n listed a w (Nat.le_refl _) (by have := hok.le; simp; omega) rfl I.hsz (fun i hi => ?_) ?_
    · rcases Nat.lt_or_ge i n with h | h
      · exact ⟨fun _ => h, fun _ => hall i h⟩
      · rw [I.hn i h]; exact ⟨(fun h' => by cases h'), (fun h' => by omega)⟩
    · have he := relWalk_endS (ops.toList.take n) Ts a0 [] (fun j => a.tmps.getD (((ops[j]?).bind (·.dst)).getD 0) undef) hlen hw w I.hb (by simp) (fun j F hF => by
        have hj : j < n := by have := (List.getElem?_eq_some_iff.1 hF).1; omega
        obtain ⟨o, ho⟩ : ∃ o, ops[j]? = some o := ⟨_, Array.getElem?_eq_getElem (by have := hok.le; omega)⟩
        have h3 := I.hT j o _ ho hF (hall j hj)
        simp only [ho, Option.bind_some]
        exact h3)
      have hA : a = lexA (ops.toList.take n) Ts (fun j => a.tmps.getD (((ops[j]?).bind (·.dst)).getD 0) undef) (ops.toList.take n).length a0 := by
        rw [hlen, hl]
        have h1 : a.tmps = (lexA (ops.toList.take n) Ts (fun j => a.tmps.getD (((ops[j]?).bind (·.dst)).getD 0) undef) n a0).tmps := by
          apply Array.ext'
          apply List.ext_getElem?
          intro t
          rw [Array.getElem?_toList, Array.getElem?_toList]
          exact same n listed a w I (Nat.le_refl _) t (fun j o hj _ _ => hall j hj) (fun j o hj _ _ => I.hn j hj)
        have h2 := lexA_defers (ops.toList.take n) Ts (fun j => a.tmps.getD (((ops[j]?).bind (·.dst)).getD 0) undef) n a0
        cases a with
        | mk tm df =>
          cases hx : lexA (ops.toList.take n) Ts (fun j => (Act.mk tm df).tmps.getD (((ops[j]?).bind (·.dst)).getD 0) undef) n a0 with
          | mk tm' df' =>
            rw [hx] at h1 h2
            have h3 := I.hd
            simp only at h1 h2 h3
            rw [h1, h3, h2]
      rw [← hA] at he
      exact he
  intro fuel
  induction fuel with
  | zero =>
    intro listed a w I hf
    refine full 0 listed a w I hf fun i hi => ?_
    cases h : listed.getD i false with
    | true => rfl
    | false =>
      exfalso
      have : i ∈ (List.range ops.size).filter (fun i => !listed.getD i false) := by
        simp only [List.mem_filter, List.mem_range]
        exact ⟨by have := hok.le; omega, by rw [h]; rfl⟩
      unfold unl at hf
      rw [List.length_eq_zero_iff.1 hf] at this
      simp at this
  | succ fuel ih =>
    intro listed a w I hf
    by_cases hall : ∀ i, i < n → listed.getD i false = true
    · exact full (fuel + 1) listed a w I hf hall
    · have hex : ∃ k, k < n ∧ listed.getD k false = false ∧ ∀ j, j < k → listed.getD j false = true := by
        have : ∃ k, k < n ∧ listed.getD k false = false := by
          apply Classical.byContradiction
          intro hne
          apply hall
          intro i hi
          cases h : listed.getD i false with
          | true => rfl
          | false => exact absurd ⟨i, hi, h⟩ hne
        obtain ⟨k, hk1, hk2⟩ := this
        induction k using Nat.strongRecOn with
        | ind k ihk =>
          by_cases hj : ∀ j, j < k → listed.getD j false = true
          · exact ⟨k, hk1, hk2, hj⟩
          · obtain ⟨j, hj1, hj2⟩ : ∃ j, j < k ∧ listed.getD j false = false := by
              apply Classical.byContradiction
              intro hne
              apply hj
              intro j hjk
              cases h : listed.getD j false with
              | true => rfl
              | false => exact absurd ⟨j, hjk, h⟩ hne
            exact ihk j hj1 (by omega) hj2
      obtain ⟨k, hkn, hkl, hkm⟩ := hex
      have rdy : ∀ i, i ∈ Region.ready .any ops listed ↔ i < ops.size ∧ listed.getD i false = false ∧ ∀ (o : Oper), ops[i]? = some o → ∀ e ∈ o.after, Region.binds .any e = true → listed.getD e.on false = true := by
        intro i
        unfold Region.ready
        simp only [List.mem_filter, List.mem_range, Bool.and_eq_true, Bool.not_eq_true']
        constructor
        · rintro ⟨h1, h2, h3⟩
          refine ⟨h1, ?_, fun o ho e he hb => ?_⟩
          · rw [Array.getD_eq_getD_getElem?, Array.getElem?_eq_getElem (by rw [I.hsz]; exact h1)] at h2 ⊢; exact h2
          · rw [ho] at h3
            simp only [Option.map_some, Option.getD_some, Array.all_eq_true_iff_forall_mem, Bool.or_eq_true, Bool.not_eq_true'] at h3
            rcases h3 e he with h | h
            · rw [hb] at h; cases h
            · exact h
        · rintro ⟨h1, h2, h3⟩
          refine ⟨h1, ?_, ?_⟩
          · rw [Array.getD_eq_getD_getElem?, Array.getElem?_eq_getElem (by rw [I.hsz]; exact h1)] at h2 ⊢; exact h2
          · rw [Array.getElem?_eq_getElem h1]
            simp only [Option.map_some, Option.getD_some, Array.all_eq_true_iff_forall_mem, Bool.or_eq_true, Bool.not_eq_true']
            intro e he
            cases hb : Region.binds .any e with
            | false => exact .inl rfl
            | true => exact .inr (h3 _ (Array.getElem?_eq_getElem h1) e he hb)
      refine ⟨fun hr => ?_, fun i hi => ?_⟩
      · exfalso
        have : k ∈ Region.ready .any ops listed := (rdy k).2 ⟨by have := hok.le; omega, hkl, fun o ho e he hb => hkm _ (hok.early k o ho e he)⟩
        rw [hr] at this
        simp at this
      · obtain ⟨hi1, hi2, hi3⟩ := (rdy i).1 hi
        obtain ⟨o, ho⟩ : ∃ o, ops[i]? = some o := ⟨_, Array.getElem?_eq_getElem hi1⟩
        have hdep : ∀ j, depB (rmasks ops.toList []) i j = true → j ≠ i → listed.getD j false = true := by
          intro j hd hji
          have := dep_closed (ops := ops) (S := fun k => listed.getD k false = true ∨ k = i) (fun k o' ho' hk' e he hb => by
            rcases hk' with hk' | rfl
            · exact .inl (I.hcl k o' ho' hk' e he hb)
            · exact .inl (hi3 o' ho' e he hb)) (.inr rfl) hd
          exact this.resolve_right hji
        have hin : i < n := by
          rcases Nat.lt_or_ge i n with h | h
          · exact h
          · have := hdep k (hok.tail i o ho h k (by omega)) (by omega)
            rw [hkl] at this; cases this
        obtain ⟨T, hT⟩ := hTs i hin
        have hup : ∀ j, i < j → depB (rmasks ops.toList []) j i = true → listed.getD j false = false := by
          intro j hij hd
          cases h : listed.getD j false with
          | false => rfl
          | true => have h' : listed.getD i false = true := dep_closed I.hcl h hd; rw [hi2] at h'; cases h'
        have hsame : ∀ t ∈ o.looksAt ops, a.tmps[t]? = (lexA (ops.toList.take n) Ts (fun j => a.tmps.getD (((ops[j]?).bind (·.dst)).getD 0) undef) i a0).tmps[t]? := by
          intro t ht
          refine same i listed a w I (by omega) t (fun j o' hj ho' hd => ?_) (fun j o' hj ho' hd => ?_)
          · exact hdep j ((hok.looks i o ho hin t ht j o' ho' hd).1 hj) (by omega)
          · by_cases hji : j = i
            · rw [hji]; exact hi2
            · exact hup j (by omega) ((hok.looks i o ho hin t ht j o' ho' hd).2 (by omega))
        have hop := relWalk_atS (ops.toList.take n) Ts a0 [] (fun j => a.tmps.getD (((ops[j]?).bind (·.dst)).getD 0) undef) i o T hw ((hos i o hin).2 ho) hT w I.hb (fun p hp => by simp at hp) (fun j o' F hj ho' hF hd => by
          have ho'' := (hos j o' (by omega)).1 ho'
          obtain ⟨t', hd', _, _⟩ := hok.dst j o' ho'' (by omega)
          rw [hd', Option.getD_some] at hd
          have h3 := I.hT j o' _ ho'' hF (hdep j ((hok.looks i o ho hin t' hd j o' ho'' hd').1 hj) (by omega))
          simp only [ho'', Option.bind_some]
          exact h3)
        have hunl : unl (listed.setIfInBounds i true) ops.size = fuel := by
          have h1 := filter_one (fun j => !listed.getD j false) (fun j => !(listed.setIfInBounds i true).getD j false) i (by simp [hi2]) (by rw [getD_set _ _ _ (by rw [I.hsz]; exact hi1), if_pos rfl]; rfl) (fun j hj => by rw [getD_set _ _ _ (by rw [I.hsz]; exact hi1), if_neg hj]) ops.size hi1
          unfold unl at hf ⊢
          omega
        have hgo : ∀ v w', StayS w0.heap.size w w' → ttHolds T v w' → wpAny P .any ops Q fuel (listed.setIfInBounds i true) (a.put o.dst v) w' := fun v w' h1 h2 =>
          ih _ _ _ (I.step hok hk ho hT hin (hi3 o ho) h1 h2) hunl
        unfold relOpS at hop
        rw [← wanted_congr hsame, ← eval_congr (ops := ops) (hok.nosel i o · · ho) hsame] at hop
        unfold wpOp
        rw [ho]
        simp only
        split
        · rename_i hwa
          rw [if_pos hwa] at hop
          refine .inl ?_
          unfold Oper.wp
          cases hrun : (execOp a.eval o).run P w with
          | halt h w' => rw [hrun] at hop; simp [relUponS] at hop
          | ok x w' =>
            rw [hrun] at hop
            cases x with
            | value v => exact hgo v w' hop.1 hop.2
            | enter f args =>
              obtain ⟨rfl, hc⟩ := hop
              refine hc.mono ?_
              rintro e w'' ⟨v, rfl, h1, h2⟩
              exact hgo v w'' h1 h2
            | _ => simp [relUponS] at hop
        · rename_i hwa
          rw [if_neg hwa] at hop
          exact hgo undef w (StayS.refl _ _) hop

/-- ONE WALK IN THE TEXT's ORDER SERVES EVERY ORDER. -/
theorem wp_region_relS {P : Program} {id : Nat} {Q : Exit → Act → World → Prop} {a : Act} {w : World} {l : List Oper} (n : Nat) (Ts : List TT) (hm : P.follows .mixedOrders = true) (hB : relOkB l.toArray n a.tmps.size = true) (hl : Ts.length = n)
    (h : relWalkS P l.toArray w (fun a' w' => wpList P l.toArray Q (l.drop n) a' w') (l.take n) Ts a []) : (Code.region id l.toArray true).wp P Q a w := by
  have hok := relOk_of hB
  refine wp_region_any hm (relFrontS (w0 := w) (a0 := a) hok hl h _ _ a w.drew ⟨(Below.refl _ _).drew, rfl, rfl, by simp, ?_, ?_, ?_, ?_⟩ ?_)
  · intro k o ho hk
    exfalso
    simp only [Array.getD_eq_getD_getElem?] at hk
    by_cases h : k < l.length <;> simp [h] at hk
  · intro i hi; simp [Array.getD_eq_getD_getElem?]
    by_cases h : i < l.length <;> simp [h]
  · intro i o T ho hT hk
    exfalso
    rw [Array.getD_eq_getD_getElem?] at hk
    by_cases h : i < l.length <;> simp [h] at hk
  · intro t _; rfl
  · unfold unl
    rw [List.filter_congr (q := fun _ => true) (fun i hi => by
      rw [Array.getD_eq_getD_getElem?]
      by_cases h : i < l.length <;> simp [h]), List.filter_eq_self.2 (fun _ _ => rfl)]
    simp

attribute [go_sem] relOpS relUponS
theorem rel_isS {P : Program} {ops : Array Oper} {w0 : World} {fin : Act → World → Prop} {o : Oper} {os : List Oper} {Ts : List TT} {a : Act} {Φ : List (Tmp × (World → Prop))} {c : Value}
    (h1 : ∀ w, Below w0.heap.size w0 w → factsOn Φ (o.looksAt ops) w → relOpS P w0.heap.size ops o a (.inl c) w) (h2 : relWalkS P ops w0 fin os Ts (a.put o.dst c) Φ) : relWalkS P ops w0 fin (o :: os) (.inl c :: Ts) a Φ := ⟨h1, h2⟩
theorem rel_fitsS {P : Program} {ops : Array Oper} {w0 : World} {fin : Act → World → Prop} {o : Oper} {os : List Oper} {Ts : List TT} {a : Act} {Φ : List (Tmp × (World → Prop))} {F : Value → World → Prop}
    (h1 : ∀ w, Below w0.heap.size w0 w → factsOn Φ (o.looksAt ops) w → relOpS P w0.heap.size ops o a (.inr F) w) (hk : KeepsS F) (h2 : ∀ v, relWalkS P ops w0 fin os Ts (a.put o.dst v) (Φ ++ [(o.dst.getD 0, F v)])) : relWalkS P ops w0 fin (o :: os) (.inr F :: Ts) a Φ := ⟨h1, hk, h2⟩
theorem rel_endS {P : Program} {ops : Array Oper} {w0 : World} {fin : Act → World → Prop} {a : Act} {Φ : List (Tmp × (World → Prop))}
    (h : ∀ w, Below w0.heap.size w0 w → (∀ p ∈ Φ, p.2 w) → fin a w) : relWalkS P ops w0 fin [] [] a Φ := h
theorem rel_callS {P : Program} {ops : Array Oper} {o : Oper} {a : Act} {T : TT} {w0 W : World} (hW : Below w0.heap.size w0 W) (hw : Region.wanted o (yielded ops a.tmps) = true) {f : FuncId} {args : Array Value} (hr : (execOp a.eval o).run P W = .ok (.enter f args) W)
    (h : Calls P f args W fun e w'' => ∃ v, e = .returned v ∧ Below W.heap.size W w'' ∧ ttHolds T v w'') : relOpS P w0.heap.size ops o a T W := by
  unfold relOpS
  rw [if_pos hw, hr]
  exact ⟨rfl, h.mono fun e w'' ⟨v, h1, h2, h3⟩ => ⟨v, h1, StayS.of h2 hW.size, h3⟩⟩
theorem StayS.alloc {w0 w : World} (h : Below w0.heap.size w0 w) (o : Obj) : StayS w0.heap.size w (w.alloc o) := StayS.of (below_alloc w o) h.size
/-- 'append(s, a, b, ..)': the new elements lie in a block of their own. -/
theorem wpList_append_lit {P : Program} {t e : TypeId} {z : Value} {bytes : Nat} (E : El P t e z bytes) {ops : Array Oper} {rest : List Oper} {o : Oper} {a : Act} {Q : Exit → Act → World → Prop} {w : World} (us : List Value) (cs : Array Value) (hcs : cs = us.toArray) (hgd : o.guard = none) (s x : Operand)
    (ho : o.op = .call { callee := .builtin .append, args := #[s, x], argTypes := #[t, t] }) (base : Nat) (hu : ∀ u ∈ us, u.oneCell' = true) (m : Nat) (hm : us.length = m)
    (v : Value) (n : Nat) (xs : List Value) (hs : a.eval s = v) (hown : w.ownsRow base e 1 v n xs) (hx : a.eval x = .slice (some ⟨w.heap.size, 0, none⟩) m m)
    (h63 : n + m ≤ 1000000000000) (hbytes : bytes ≤ 100) (w0 : World) (hB : base ≤ w0.heap.size) (hbel : Below base w0 w)
    (h : ∀ v' w', w'.ownsRow base e 1 v' (n + m) (xs ++ us) → Below base w0 w' → w.grownBy w' v.ownBlock → (v'.ownBlock = v.ownBlock ∨ v'.ownBlock = some (w.heap.size + 1)) → wpList P ops Q rest (a.put o.dst v') w') :
    wpList P ops Q (o :: rest) a (w.alloc (.cells cs e)) := by
  subst hcs
  refine wpList_append_src E hgd s x ho base v n xs hs (hown.alloc _) (w.heap.size + 1) (some ⟨w.heap.size, 0, none⟩) us m m hx hm ?_ (by intro h; cases h) hu (by omega) hbytes w0 hB (hbel.alloc (Nat.le_trans hB hbel.size) _) ?_
  · intro j y hy
    refine ⟨_, 0, rfl, by omega, ?_⟩
    rw [cell_blk (T := e) (heap_alloc_new _ _)]
    simpa using hy
  · intro v' w' h2 h3 h4 h5
    refine h v' w' h2 h3 ⟨h4.os, h4.tape, h4.output, Nat.le_trans (by simp) h4.size, fun i hi hne => (h4.block i (by simp; omega) hne).trans (Below.heap_alloc w _ i hi)⟩ (by simpa using h5)
/-- an own row. -/
def OwnR (B : Nat) (e : TypeId) (n : Nat) (xs : List Value) (v : Value) (w : World) : Prop := w.ownsRow B e 1 v n xs
theorem OwnR.keepsS (B : Nat) (e : TypeId) (n : Nat) (xs : List Value) : KeepsS (OwnR B e n xs) := fun v w w' h hb => own_below h hb
end Go.Proofs.YtegekaocbalndaaGreatDoor
