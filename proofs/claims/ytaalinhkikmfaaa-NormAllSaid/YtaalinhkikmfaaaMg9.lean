/- several texts in one: what NormOne says, plain., assizelaw15.at, flat, equivalent. -/
import Derived.Test.YtaalinhkikmfaaaEj
import Derived.Test.YtaalinhkikmfaaaEk
import Derived.Test.YtaalinhkikmfaaaCr
import Derived.Test.YtaalinhkikmfaaaMg7
section
set_option linter.unusedSimpArgs false
set_option linter.unusedVariables false
namespace Go.Proofs.Ytaalinhkikmfaaa
open Go.RowKit

def zof (o : List Nat) : List Int := o.map fun (x : Nat) => (x : Int)
theorem zof_length (o : List Nat) : (zof o).length = o.length := by simp [zof]
theorem zof_get {o : List Nat} {k : Nat} (h : k < o.length) : (zof o).getD k 0 = (o[k] : Nat) := by simp [zof, List.getD_eq_getElem?_getD, h]
theorem sched_perm {m : Nat} {o : List Nat} (hlt : ∀ x ∈ o, x < m) (hnd : o.Nodup) (hlen : o.length = m) : schedOk m (zof o) = true := by
  rw [sched_yes, zof_length]
  · exact decide_eq_true hlen
  intro k hk
  rw [zof_length] at hk
  have h1 := hlt _ (List.getElem_mem hk)
  unfold badS
  rw [zof_get hk, decide_eq_false (by omega), decide_eq_false (by omega), decide_eq_false, Bool.or_false, Bool.or_false]
  intro hmem
  unfold zof at hmem
  rw [← List.map_take] at hmem
  obtain ⟨y, hy, e⟩ := List.mem_map.1 hmem
  have e2 : y = o[k] := by have e' : (y : Int) = ((o[k] : Nat) : Int) := e; omega
  obtain ⟨i, hi, e3⟩ := List.getElem_of_mem hy
  have hik : i < k := by rw [List.length_take] at hi; omega
  rw [List.getElem_take] at e3
  have := List.pairwise_iff_getElem.1 hnd i k (by omega) hk hik
  exact this (by rw [e3, e2])
theorem wrong_map {l : List Ev} {n : Int} (h : wrongE l n = 0) {o : List Nat} (ho : ∀ x ∈ o, x < l.length) (hl : o.length ≤ l.length) : wrongE (o.map (ev l)) n = 0 := by
  have h3 := (wrong_ok h).2.2.1
  refine wrong_of h (by simp; omega) fun i hi => ?_
  rw [List.length_map] at hi
  exact ⟨o[i], ho _ (List.getElem_mem hi), by simp [ev, List.getD_eq_getElem?_getD, hi]⟩
theorem leastE_len (l : List Ev) : (leastE l).length = l.length := by unfold leastE; rw [List.length_map, leastX_len]
theorem leastE_tq (l : List Ev) : Tq l (leastE l) := lf_equiv (leastE_lf l)
theorem leastE_own (l : List Ev) : leastE (leastE l) = leastE l := (leastE_iff.2 (leastE_tq l)).symm
theorem leastE_wrong {l : List Ev} {n : Int} (h : wrongE l n = 0) : wrongE (leastE l) n = 0 := wrong_map h (leastX_lt l) (by rw [leastX_len]; omega)
theorem eqAns_tq {l m : List Ev} {n : Int} (h : wrongE l n = 0) (h2 : wrongE m n = 0) : eqAns l m n = decide (leastE l = leastE m) := by
  unfold eqAns eqCode
  rw [h, h2]
  simp
theorem eqCode_ok {l m : List Ev} {n : Int} (h : wrongE l n = 0) (h2 : wrongE m n = 0) : eqCode l m n = 0 := by
  unfold eqCode
  rw [h, h2]
  simp
theorem eqAns_yes {l m : List Ev} {n : Int} (h : wrongE l n = 0) (h2 : wrongE m n = 0) (h3 : Tq l m) : eqAns l m n = true := by
  rw [eqAns_tq h h2]
  exact decide_eq_true (leastE_iff.2 h3)
theorem evt_left (a b : List Ev) (i : Nat) (h : i < a.length) : ev (a ++ b) i = ev a i := by
  simp [ev, List.getD_eq_getElem?_getD, List.getElem?_append_left h]
theorem evt_right (a b : List Ev) (i : Nat) (h : a.length ≤ i) : ev (a ++ b) i = ev b (i - a.length) := by
  simp [ev, List.getD_eq_getElem?_getD, List.getElem?_append_right h]
theorem swL_cut {l : List Ev} {p : Nat} (h : p + 1 < l.length) : ∃ u v, l = u ++ ev l p :: ev l (p + 1) :: v ∧ swL l p = u ++ ev l (p + 1) :: ev l p :: v := by
  have e1 : ∀ i (hi : i < l.length), ev l i = l[i] := fun i hi => by simp [ev, List.getD_eq_getElem?_getD, hi]
  have hl : l = l.take p ++ ev l p :: ev l (p + 1) :: l.drop (p + 2) := by
    rw [e1 p (by omega), e1 (p + 1) h, List.getElem_cons_drop, List.getElem_cons_drop, List.take_append_drop]
  refine ⟨l.take p, l.drop (p + 2), hl, ?_⟩
  refine ev_ext (by rw [swL_length]; simp; omega) fun j hj => ?_
  rw [swL_length] at hj
  rw [ev_swL l p h]
  have hp : (l.take p).length = p := by simp; omega
  by_cases h1 : j < p
  · rw [show sw p j = j by unfold sw; rw [if_neg (by omega), if_neg (by omega)], evt_left _ _ _ (by omega)]
    exact (ev_take l p j h1).symm
  · rw [evt_right _ _ _ (by omega), hp]
    by_cases h2 : j = p
    · subst h2
      rw [show sw j j = j + 1 by unfold sw; rw [if_pos rfl], show j - j = 0 by omega]
      rfl
    · by_cases h3 : j = p + 1
      · subst h3
        rw [show sw p (p + 1) = p by unfold sw; rw [if_neg (by omega), if_pos rfl], show p + 1 - p = 1 by omega]
        rfl
      · rw [show sw p j = j by unfold sw; rw [if_neg h2, if_neg h3]]
        obtain ⟨d, rfl⟩ : ∃ d, j = p + 2 + d := ⟨j - p - 2, by omega⟩
        rw [show p + 2 + d - p = d + 2 by omega]
        show _ = ev (l.drop (p + 2)) d
        simp [ev, List.getD_eq_getElem?_getD, List.getElem?_drop]
theorem swL_free {l : List Ev} {p : Nat} (h : p + 1 < l.length) (ht : (ev l p).t ≠ (ev l (p + 1)).t) : decide (leastE l = leastE (swL l p)) = !dpd (ev l p) (ev l (p + 1)) := by
  obtain ⟨u, v, e1, e2⟩ := swL_cut h
  cases hd : dpd (ev l p) (ev l (p + 1)) with
  | false => exact decide_eq_true (leastE_iff.2 (.step .refl ⟨u, _, _, v, e1, e2, hd⟩))
  | true =>
    refine decide_eq_false fun hl => ?_
    have h1 := leastE_iff.1 hl
    refine tq_not (u := u) (v := v) hd (fun e => ht (by rw [e])) ?_
    rw [← e1, ← e2]
    exact h1
end Go.Proofs.Ytaalinhkikmfaaa
end

section
set_option linter.unusedSimpArgs false
set_option linter.unusedVariables false
namespace Go.Proofs.Ytaalinhkikmfaaa
open Go.RowKit

theorem zs_icl {w : World} {B : Nat} {A : Option Addr} {o : List Nat} (h : Rd w B A (icl o)) : Zs w B A (zof o) := fun i hi => by
  rw [zof_length] at hi
  obtain ⟨b, f, e, hb, hc⟩ := h i _ (icl_get hi)
  exact ⟨b, f, e, hb, hc.trans (by rw [zof_get hi])⟩
theorem evs_own {w : World} {B : Nat} {v : Value} {q : Nat} {l : List Ev} (h : w.ownsRow B 50 3 v q (evcells l)) : ∃ A c, v = .slice A q c ∧ Evs w w.heap.size A l ∧ (A = none → q = 0) ∧ q ≤ c := by
  obtain ⟨A, c, rfl, hr, h0, hc⟩ := own_rdS h
  exact ⟨A, c, rfl, Evs.of_rd hr, h0, hc⟩
set_option maxRecDepth 100000 in
set_option maxHeartbeats 4000000 in
theorem at_any (l : List Ev) (m : Nat) (hm : m = l.length) (hl : m ≤ 5000) (A : Option Addr) (cap : Nat) (o : List Nat) (hod : Dn l o) (hol : m = o.length) (Ao : Option Addr) (co B : Nat) (w : World) (hA : Evs w B A l) (hO : Rd w B Ao (icl o)) (hB : B ≤ w.heap.size) :
    Calls Try.prog 25 #[.slice A m cap, .slice Ao m co] w fun e w' => ∃ A' c', e = .returned (.slice A' m c') ∧ Evs w' w'.heap.size A' (o.map (ev l)) ∧ (A' = none → m = 0) ∧ m ≤ c' ∧ Below w.heap.size w w' := by
  have HS := Lib.hid (schedule_any l m hm hl A cap (zof o) m (by rw [zof_length]; exact hol) (by omega) Ao co B w hA (zs_icl hO) hB)
  have HY : Hid (schedOk m (zof o) = true) := Lib.hid (sched_perm (fun x hx => by rw [hm]; exact hod.lt x hx) hod.nodup hol.symm)
  have HA := Lib.hid hA; have HO := Lib.hid hO; have HM := Lib.hid hm; have HL := Lib.hid hol; have HD := Lib.hid (fun x hx => (hod.lt x hx : x < l.length))
  clear hA hO hm hol hod
  go_enter Try.func25, Try.ntmps25
  go_wp2_with fail
  with_reducible refine HS.out.mono ?_
  rintro e w1 ⟨hb1, ⟨h1, _⟩ | ⟨_, v, rfl, _, _⟩⟩
  · rw [HY.out] at h1; cases h1
  have HB1 := Lib.hid hb1
  clear hb1 HS
  have HR := Lib.hid (refat_any l m HM.out (by omega) A cap o m HL.out (by omega) Ao co B w1 (HA.out.below (HB1.out.mono hB)) (fun i u hu => by
    obtain ⟨b, f, e, hb, hc⟩ := HO.out i u hu
    exact ⟨b, f, e, hb, (HB1.out.cell (p := ⟨b, f + i, none⟩) (Nat.lt_of_lt_of_le hb hB)).trans hc⟩) (Nat.le_trans hB HB1.out.size) (fun x hx => by rw [HM.out]; exact HD.out x hx))
  go_wp2_with fail
  with_reducible refine HR.out.mono ?_
  rintro e w2 ⟨v, rfl, ho, hb2⟩
  have HB2 := Lib.hid (HB1.out.trans (hb2.mono HB1.out.size))
  obtain ⟨A', c', rfl, he, h0, hc⟩ := evs_own ho
  have HE := Lib.hid he; have H0 := Lib.hid h0; have HC := Lib.hid hc
  clear hb2 ho he h0 hc HR
  go_wp2_with fail
  go_ret
  exact ⟨_, _, rfl, HE.out, H0.out, HC.out, HB2.out⟩
def flatK (f : Nat → List Nat) (k : Nat) : List Nat := (List.range k).flatMap f
theorem flatK_succ (f : Nat → List Nat) (k : Nat) : flatK f (k + 1) = flatK f k ++ f k := by simp [flatK, List.range_succ]
theorem flatK_le {f : Nat → List Nat} {K b : Nat} (h : ∀ i, i < K → (f i).length ≤ b) : ∀ k, k ≤ K → (flatK f k).length ≤ k * b
  | 0, _ => by simp [flatK]
  | k + 1, hk => by
    rw [flatK_succ, List.length_append, Nat.succ_mul]
    have := flatK_le h k (by omega)
    have := h k (by omega)
    omega
theorem rd_ints {w : World} {B : Nat} {A : Option Addr} {js : List Nat} (h : Ints w B A js.length (fun t => js.getD t 0)) : Rd w B A (icl js) := fun i u hu => by
  have hi : i < js.length := by
    have := (List.getElem?_eq_some_iff.1 hu).1
    rwa [icl_length] at this
  rw [icl_get hi] at hu
  injection hu with hu
  subst hu
  obtain ⟨b, o, e, hb, hc⟩ := h i hi
  exact ⟨b, o, e, hb, hc.trans (by simp [List.getD_eq_getElem?_getD, hi])⟩
theorem icl_one (js : List Nat) : ∀ u ∈ icl js, u.oneCell' = true := by
  intro u hu
  obtain ⟨x, _, rfl⟩ := List.mem_map.1 hu
  rfl
set_option maxRecDepth 100000 in
set_option maxHeartbeats 4000000 in
theorem flat_any (K : Nat) (hK : K ≤ 10000) (f : Nat → List Nat) (hf : ∀ i, i < K → (f i).length ≤ 10000) (A : Option Addr) (cap B : Nat) (w : World) (hA : RowsN w B A K f) (hB : B ≤ w.heap.size) :
    Calls Try.prog 26 #[.slice A K cap] w fun e w' => ∃ A' c' q, e = .returned (.slice A' q c') ∧ q = (flatK f K).length ∧ Rd w' w'.heap.size A' (icl (flatK f K)) ∧ Below w.heap.size w w' := by
  have HA := Lib.hid hA; have HF := Lib.hid hf
  clear hA hf
  go_enter Try.func26, Try.ntmps26
  go_wp2_with fail
  go_loopw [3, 4] (fun ov iv wr => ∃ k q : Nat, k ≤ K ∧ iv = .int .i64 (k : Nat) ∧ q = (flatK f k).length ∧ wr.ownsRow w.heap.size 3 1 ov q (icl (flatK f k)) ∧ Below w.heap.size w wr) (fun _ iv _ => K - (intOf iv).toNat)
  case atStart => exact ⟨0, 0, by omega, by go_num, rfl, World.ownsRow_nil _ _ _ _, Below.refl _ _⟩
  case round =>
    obtain ⟨k, q, hk, rfl, hq, hr, hb⟩ := hrel
    have HR := Lib.hid hr; have HB := Lib.hid hb
    have hq2 : q ≤ 100000000 := by
      have := flatK_le HF.out k hk
      have := Nat.mul_le_mul_right 10000 (Nat.le_trans hk hK)
      omega
    have HQ := Lib.hid hq
    obtain ⟨A5, c5, rfl, hr5, _⟩ := own_rd hr
    have HR5 := Lib.hid hr5
    clear hr5 hr hq
    by_cases hlt : k < K
    · obtain ⟨b, o, Ai, ci, rfl, hb0, e1, hI⟩ := HA.out k hlt
      obtain ⟨p, hp⟩ : ∃ p, p = (f k).length := ⟨_, rfl⟩
      have hp2 : p ≤ 10000 := by rw [hp]; exact HF.out k hlt
      have hA0 : Ai = none → p = 0 := fun h => by
        rw [hp]
        refine Classical.byContradiction fun h2 => ?_
        obtain ⟨_, _, e, _⟩ := hI 0 (by omega)
        rw [h] at e
        cases e
      have HA0 := Lib.hid hA0
      have HI := Lib.hid (rd_ints hI)
      have HP := Lib.hid hp
      have c0 := (hb.cell (p := ⟨b, o + k, none⟩) (Nat.lt_of_lt_of_le hb0 hB)).trans e1
      rw [← hp] at c0
      clear hb e1 hI hp hA0
      go_wp2_with (at_builtin; refine wpList_append_src EI rfl (.tmp 11) (.tmp 15) rfl w.heap.size _ q _ rfl HR.out B Ai (icl (f k)) p ci rfl (by rw [icl_length, HP.out]) (HI.out.keep fun b o h => HB.out.cell (p := ⟨b, o, none⟩) (Nat.lt_of_lt_of_le h hB)) HA0.out (icl_one _) (by omega) (by omega) w (Nat.le_refl _) HB.out ?_; intro v' w' h2 h3 h4 h5; clear h4 h5; obtain ⟨g5, c6, rfl, _⟩ := own_rd h2; have O2 := Lib.hid h2; have B2 := Lib.hid h3; clear h2 h3)
      refine ⟨⟨k + 1, q + p, by omega, by go_num, by rw [flatK_succ, List.length_append, HQ.out, HP.out], by rw [flatK_succ]; unfold icl; rw [List.map_append]; exact O2.out, B2.out⟩, by simp [intOf]; omega⟩
    · obtain rfl : k = K := by omega
      clear hb
      go_wp2_with fail
      go_ret
      exact ⟨_, _, _, rfl, HQ.out, HR5.out, HB.out⟩
set_option maxRecDepth 100000 in
set_option maxHeartbeats 4000000 in
theorem equivalent_any (la lb : List Ev) (p q : Nat) (hp : p = la.length) (hq : q = lb.length) (hpl : p ≤ 4611686018427387904) (hql : q ≤ 4611686018427387904) (n : Int) (A A' : Option Addr) (c c' : Nat) (hpc : p ≤ c) (hqc : q ≤ c') (w : World) (hA : Evs w w.heap.size A la) (hA' : Evs w w.heap.size A' lb) :
    Calls Try.prog 27 #[.slice A p c, .slice A' q c', .int .i64 n] w fun e w' => e = .returned (.bool (eqAns la lb n)) ∧ Below w.heap.size w w' := by
  have HE := Lib.hid (equiv_any la lb p q hp hq hpl hql n A A' c c' hpc hqc w hA hA')
  have hx : eqCode la lb n ≠ 0 → eqAns la lb n = false := fun h => by unfold eqAns; rw [decide_eq_false h]; rfl
  have HX := Lib.hid hx
  clear hA hA' hp hq hx
  go_enter Try.func27, Try.ntmps27
  go_wp2_with fail
  with_reducible refine HE.out.mono ?_
  rintro e w1 ⟨rfl, hb⟩
  have HB := Lib.hid hb
  clear hb HE
  by_cases h0 : eqCode la lb n = 0
  · rw [h0]
    cases hans : eqAns la lb n
    · have HN := Lib.hid hans
      clear hans HX h0
      go_wp2_with fail
      go_ret
      exact ⟨by rw [HN.out]; rfl, HB.out⟩
    · have HN := Lib.hid hans
      clear hans HX h0
      go_wp2_with fail
      go_ret
      exact ⟨by rw [HN.out]; rfl, HB.out⟩
  · have HN := Lib.hid (HX.out h0)
    rw [HN.out]
    clear HX
    have d0 : (((eqCode la lb n : Nat) : Int) == 0) = false := by rw [beq_eq_false_iff_ne]; omega
    generalize eqCode la lb n = x at *
    clear h0
    go_wp2_with fail
    go_ret
    exact ⟨by rw [HN.out]; rfl, HB.out⟩
end Go.Proofs.Ytaalinhkikmfaaa
end
