/- several texts in one: what NormOne says, plain., assizelaw15.at, flat, equivalent., NormOne: its walk. -/
import Derived.Test.YtaalinhkikmfaaaEj
import Derived.Test.YtaalinhkikmfaaaEk
import Derived.Test.YtaalinhkikmfaaaCr
import Derived.Test.YtaalinhkikmfaaaMg7
import Derived.Test.YtaalinhkikmfaaaMg8
import Derived.Test.YtaalinhkikmfaaaCa
import Derived.Test.YtaalinhkikmfaaaPk
section
set_option linter.unusedSimpArgs false
set_option linter.unusedVariables false
namespace Go.Proofs.Ytaalinhkikmfaaa
open Go.RowKit

def zof (o : List Nat) : List Int := o.map fun (x : Nat) => (x : Int)
theorem zof_length (o : List Nat) : (zof o).length = o.length := by simp [zof]
theorem zof_get {o : List Nat} {k : Nat} (h : k < o.length) : (zof o).getD k 0 = (o[k] : Nat) := by simp [zof, List.getD_eq_getElem?_getD, h]
theorem sched_perm {m : Nat} {o : List Nat} (hlt : ∀ x ∈ o, x < m) (hnd : o.Nodup) (hlen : o.length = m) : schedOk m (zof o) = true := by
  rw [sched_yes, zof_length]
  · exact decide_eq_true hlen
  intro k hk
  rw [zof_length] at hk
  have h1 := hlt _ (List.getElem_mem hk)
  unfold badS
  rw [zof_get hk, decide_eq_false (by omega), decide_eq_false (by omega), decide_eq_false, Bool.or_false, Bool.or_false]
  intro hmem
  unfold zof at hmem
  rw [← List.map_take] at hmem
  obtain ⟨y, hy, e⟩ := List.mem_map.1 hmem
  have e2 : y = o[k] := by have e' : (y : Int) = ((o[k] : Nat) : Int) := e; omega
  obtain ⟨i, hi, e3⟩ := List.getElem_of_mem hy
  have hik : i < k := by rw [List.length_take] at hi; omega
  rw [List.getElem_take] at e3
  have := List.pairwise_iff_getElem.1 hnd i k (by omega) hk hik
  exact this (by rw [e3, e2])
theorem wrong_map {l : List Ev} {n : Int} (h : wrongE l n = 0) {o : List Nat} (ho : ∀ x ∈ o, x < l.length) (hl : o.length ≤ l.length) : wrongE (o.map (ev l)) n = 0 := by
  have h3 := (wrong_ok h).2.2.1
  refine wrong_of h (by simp; omega) fun i hi => ?_
  rw [List.length_map] at hi
  exact ⟨o[i], ho _ (List.getElem_mem hi), by simp [ev, List.getD_eq_getElem?_getD, hi]⟩
theorem leastE_len (l : List Ev) : (leastE l).length = l.length := by unfold leastE; rw [List.length_map, leastX_len]
theorem leastE_tq (l : List Ev) : Tq l (leastE l) := lf_equiv (leastE_lf l)
theorem leastE_own (l : List Ev) : leastE (leastE l) = leastE l := (leastE_iff.2 (leastE_tq l)).symm
theorem leastE_wrong {l : List Ev} {n : Int} (h : wrongE l n = 0) : wrongE (leastE l) n = 0 := wrong_map h (leastX_lt l) (by rw [leastX_len]; omega)
theorem eqAns_tq {l m : List Ev} {n : Int} (h : wrongE l n = 0) (h2 : wrongE m n = 0) : eqAns l m n = decide (leastE l = leastE m) := by
  unfold eqAns eqCode
  rw [h, h2]
  simp
theorem eqCode_ok {l m : List Ev} {n : Int} (h : wrongE l n = 0) (h2 : wrongE m n = 0) : eqCode l m n = 0 := by
  unfold eqCode
  rw [h, h2]
  simp
theorem eqAns_yes {l m : List Ev} {n : Int} (h : wrongE l n = 0) (h2 : wrongE m n = 0) (h3 : Tq l m) : eqAns l m n = true := by
  rw [eqAns_tq h h2]
  exact decide_eq_true (leastE_iff.2 h3)
theorem evt_left (a b : List Ev) (i : Nat) (h : i < a.length) : ev (a ++ b) i = ev a i := by
  simp [ev, List.getD_eq_getElem?_getD, List.getElem?_append_left h]
theorem evt_right (a b : List Ev) (i : Nat) (h : a.length ≤ i) : ev (a ++ b) i = ev b (i - a.length) := by
  simp [ev, List.getD_eq_getElem?_getD, List.getElem?_append_right h]
theorem swL_cut {l : List Ev} {p : Nat} (h : p + 1 < l.length) : ∃ u v, l = u ++ ev l p :: ev l (p + 1) :: v ∧ swL l p = u ++ ev l (p + 1) :: ev l p :: v := by
  have e1 : ∀ i (hi : i < l.length), ev l i = l[i] := fun i hi => by simp [ev, List.getD_eq_getElem?_getD, hi]
  have hl : l = l.take p ++ ev l p :: ev l (p + 1) :: l.drop (p + 2) := by
    rw [e1 p (by omega), e1 (p + 1) h, List.getElem_cons_drop, List.getElem_cons_drop, List.take_append_drop]
  refine ⟨l.take p, l.drop (p + 2), hl, ?_⟩
  refine ev_ext (by rw [swL_length]; simp; omega) fun j hj => ?_
  rw [swL_length] at hj
  rw [ev_swL l p h]
  have hp : (l.take p).length = p := by simp; omega
  by_cases h1 : j < p
  · rw [show sw p j = j by unfold sw; rw [if_neg (by omega), if_neg (by omega)], evt_left _ _ _ (by omega)]
    exact (ev_take l p j h1).symm
  · rw [evt_right _ _ _ (by omega), hp]
    by_cases h2 : j = p
    · subst h2
      rw [show sw j j = j + 1 by unfold sw; rw [if_pos rfl], show j - j = 0 by omega]
      rfl
    · by_cases h3 : j = p + 1
      · subst h3
        rw [show sw p (p + 1) = p by unfold sw; rw [if_neg (by omega), if_pos rfl], show p + 1 - p = 1 by omega]
        rfl
      · rw [show sw p j = j by unfold sw; rw [if_neg h2, if_neg h3]]
        obtain ⟨d, rfl⟩ : ∃ d, j = p + 2 + d := ⟨j - p - 2, by omega⟩
        rw [show p + 2 + d - p = d + 2 by omega]
        show _ = ev (l.drop (p + 2)) d
        simp [ev, List.getD_eq_getElem?_getD, List.getElem?_drop]
theorem swL_free {l : List Ev} {p : Nat} (h : p + 1 < l.length) (ht : (ev l p).t ≠ (ev l (p + 1)).t) : decide (leastE l = leastE (swL l p)) = !dpd (ev l p) (ev l (p + 1)) := by
  obtain ⟨u, v, e1, e2⟩ := swL_cut h
  cases hd : dpd (ev l p) (ev l (p + 1)) with
  | false => exact decide_eq_true (leastE_iff.2 (.step .refl ⟨u, _, _, v, e1, e2, hd⟩))
  | true =>
    refine decide_eq_false fun hl => ?_
    have h1 := leastE_iff.1 hl
    refine tq_not (u := u) (v := v) hd (fun e => ht (by rw [e])) ?_
    rw [← e1, ← e2]
    exact h1
end Go.Proofs.Ytaalinhkikmfaaa
end

section
set_option linter.unusedSimpArgs false
set_option linter.unusedVariables false
namespace Go.Proofs.Ytaalinhkikmfaaa
open Go.RowKit

theorem zs_icl {w : World} {B : Nat} {A : Option Addr} {o : List Nat} (h : Rd w B A (icl o)) : Zs w B A (zof o) := fun i hi => by
  rw [zof_length] at hi
  obtain ⟨b, f, e, hb, hc⟩ := h i _ (icl_get hi)
  exact ⟨b, f, e, hb, hc.trans (by rw [zof_get hi])⟩
theorem evs_own {w : World} {B : Nat} {v : Value} {q : Nat} {l : List Ev} (h : w.ownsRow B 50 3 v q (evcells l)) : ∃ A c, v = .slice A q c ∧ Evs w w.heap.size A l ∧ (A = none → q = 0) ∧ q ≤ c := by
  obtain ⟨A, c, rfl, hr, h0, hc⟩ := own_rdS h
  exact ⟨A, c, rfl, Evs.of_rd hr, h0, hc⟩
set_option maxRecDepth 100000 in
set_option maxHeartbeats 4000000 in
theorem at_any (l : List Ev) (m : Nat) (hm : m = l.length) (hl : m ≤ 5000) (A : Option Addr) (cap : Nat) (o : List Nat) (hod : Dn l o) (hol : m = o.length) (Ao : Option Addr) (co B : Nat) (w : World) (hA : Evs w B A l) (hO : Rd w B Ao (icl o)) (hB : B ≤ w.heap.size) :
    Calls Try.prog 25 #[.slice A m cap, .slice Ao m co] w fun e w' => ∃ A' c', e = .returned (.slice A' m c') ∧ Evs w' w'.heap.size A' (o.map (ev l)) ∧ (A' = none → m = 0) ∧ m ≤ c' ∧ Below w.heap.size w w' := by
  have HS := Lib.hid (schedule_any l m hm hl A cap (zof o) m (by rw [zof_length]; exact hol) (by omega) Ao co B w hA (zs_icl hO) hB)
  have HY : Hid (schedOk m (zof o) = true) := Lib.hid (sched_perm (fun x hx => by rw [hm]; exact hod.lt x hx) hod.nodup hol.symm)
  have HA := Lib.hid hA; have HO := Lib.hid hO; have HM := Lib.hid hm; have HL := Lib.hid hol; have HD := Lib.hid (fun x hx => (hod.lt x hx : x < l.length))
  clear hA hO hm hol hod
  go_enter Try.func25, Try.ntmps25
  go_wp2_with fail
  with_reducible refine HS.out.mono ?_
  rintro e w1 ⟨hb1, ⟨h1, _⟩ | ⟨_, v, rfl, _, _⟩⟩
  · rw [HY.out] at h1; cases h1
  have HB1 := Lib.hid hb1
  clear hb1 HS
  have HR := Lib.hid (refat_any l m HM.out (by omega) A cap o m HL.out (by omega) Ao co B w1 (HA.out.below (HB1.out.mono hB)) (fun i u hu => by
    obtain ⟨b, f, e, hb, hc⟩ := HO.out i u hu
    exact ⟨b, f, e, hb, (HB1.out.cell (p := ⟨b, f + i, none⟩) (Nat.lt_of_lt_of_le hb hB)).trans hc⟩) (Nat.le_trans hB HB1.out.size) (fun x hx => by rw [HM.out]; exact HD.out x hx))
  go_wp2_with fail
  with_reducible refine HR.out.mono ?_
  rintro e w2 ⟨v, rfl, ho, hb2⟩
  have HB2 := Lib.hid (HB1.out.trans (hb2.mono HB1.out.size))
  obtain ⟨A', c', rfl, he, h0, hc⟩ := evs_own ho
  have HE := Lib.hid he; have H0 := Lib.hid h0; have HC := Lib.hid hc
  clear hb2 ho he h0 hc HR
  go_wp2_with fail
  go_ret
  exact ⟨_, _, rfl, HE.out, H0.out, HC.out, HB2.out⟩
def flatK (f : Nat → List Nat) (k : Nat) : List Nat := (List.range k).flatMap f
theorem flatK_succ (f : Nat → List Nat) (k : Nat) : flatK f (k + 1) = flatK f k ++ f k := by simp [flatK, List.range_succ]
theorem flatK_le {f : Nat → List Nat} {K b : Nat} (h : ∀ i, i < K → (f i).length ≤ b) : ∀ k, k ≤ K → (flatK f k).length ≤ k * b
  | 0, _ => by simp [flatK]
  | k + 1, hk => by
    rw [flatK_succ, List.length_append, Nat.succ_mul]
    have := flatK_le h k (by omega)
    have := h k (by omega)
    omega
theorem rd_ints {w : World} {B : Nat} {A : Option Addr} {js : List Nat} (h : Ints w B A js.length (fun t => js.getD t 0)) : Rd w B A (icl js) := fun i u hu => by
  have hi : i < js.length := by
    have := (List.getElem?_eq_some_iff.1 hu).1
    rwa [icl_length] at this
  rw [icl_get hi] at hu
  injection hu with hu
  subst hu
  obtain ⟨b, o, e, hb, hc⟩ := h i hi
  exact ⟨b, o, e, hb, hc.trans (by simp [List.getD_eq_getElem?_getD, hi])⟩
theorem icl_one (js : List Nat) : ∀ u ∈ icl js, u.oneCell' = true := by
  intro u hu
  obtain ⟨x, _, rfl⟩ := List.mem_map.1 hu
  rfl
set_option maxRecDepth 100000 in
set_option maxHeartbeats 4000000 in
theorem flat_any (K : Nat) (hK : K ≤ 10000) (f : Nat → List Nat) (hf : ∀ i, i < K → (f i).length ≤ 10000) (A : Option Addr) (cap B : Nat) (w : World) (hA : RowsN w B A K f) (hB : B ≤ w.heap.size) :
    Calls Try.prog 26 #[.slice A K cap] w fun e w' => ∃ A' c' q, e = .returned (.slice A' q c') ∧ q = (flatK f K).length ∧ Rd w' w'.heap.size A' (icl (flatK f K)) ∧ Below w.heap.size w w' := by
  have HA := Lib.hid hA; have HF := Lib.hid hf
  clear hA hf
  go_enter Try.func26, Try.ntmps26
  go_wp2_with fail
  go_loopw [3, 4] (fun ov iv wr => ∃ k q : Nat, k ≤ K ∧ iv = .int .i64 (k : Nat) ∧ q = (flatK f k).length ∧ wr.ownsRow w.heap.size 3 1 ov q (icl (flatK f k)) ∧ Below w.heap.size w wr) (fun _ iv _ => K - (intOf iv).toNat)
  case atStart => exact ⟨0, 0, by omega, by go_num, rfl, World.ownsRow_nil _ _ _ _, Below.refl _ _⟩
  case round =>
    obtain ⟨k, q, hk, rfl, hq, hr, hb⟩ := hrel
    have HR := Lib.hid hr; have HB := Lib.hid hb
    have hq2 : q ≤ 100000000 := by
      have := flatK_le HF.out k hk
      have := Nat.mul_le_mul_right 10000 (Nat.le_trans hk hK)
      omega
    have HQ := Lib.hid hq
    obtain ⟨A5, c5, rfl, hr5, _⟩ := own_rd hr
    have HR5 := Lib.hid hr5
    clear hr5 hr hq
    by_cases hlt : k < K
    · obtain ⟨b, o, Ai, ci, rfl, hb0, e1, hI⟩ := HA.out k hlt
      obtain ⟨p, hp⟩ : ∃ p, p = (f k).length := ⟨_, rfl⟩
      have hp2 : p ≤ 10000 := by rw [hp]; exact HF.out k hlt
      have hA0 : Ai = none → p = 0 := fun h => by
        rw [hp]
        refine Classical.byContradiction fun h2 => ?_
        obtain ⟨_, _, e, _⟩ := hI 0 (by omega)
        rw [h] at e
        cases e
      have HA0 := Lib.hid hA0
      have HI := Lib.hid (rd_ints hI)
      have HP := Lib.hid hp
      have c0 := (hb.cell (p := ⟨b, o + k, none⟩) (Nat.lt_of_lt_of_le hb0 hB)).trans e1
      rw [← hp] at c0
      clear hb e1 hI hp hA0
      go_wp2_with (at_builtin; refine wpList_append_src EI rfl (.tmp 11) (.tmp 15) rfl w.heap.size _ q _ rfl HR.out B Ai (icl (f k)) p ci rfl (by rw [icl_length, HP.out]) (HI.out.keep fun b o h => HB.out.cell (p := ⟨b, o, none⟩) (Nat.lt_of_lt_of_le h hB)) HA0.out (icl_one _) (by omega) (by omega) w (Nat.le_refl _) HB.out ?_; intro v' w' h2 h3 h4 h5; clear h4 h5; obtain ⟨g5, c6, rfl, _⟩ := own_rd h2; have O2 := Lib.hid h2; have B2 := Lib.hid h3; clear h2 h3)
      refine ⟨⟨k + 1, q + p, by omega, by go_num, by rw [flatK_succ, List.length_append, HQ.out, HP.out], by rw [flatK_succ]; unfold icl; rw [List.map_append]; exact O2.out, B2.out⟩, by simp [intOf]; omega⟩
    · obtain rfl : k = K := by omega
      clear hb
      go_wp2_with fail
      go_ret
      exact ⟨_, _, _, rfl, HQ.out, HR5.out, HB.out⟩
set_option maxRecDepth 100000 in
set_option maxHeartbeats 4000000 in
theorem equivalent_any (la lb : List Ev) (p q : Nat) (hp : p = la.length) (hq : q = lb.length) (hpl : p ≤ 4611686018427387904) (hql : q ≤ 4611686018427387904) (n : Int) (A A' : Option Addr) (c c' : Nat) (hpc : p ≤ c) (hqc : q ≤ c') (w : World) (hA : Evs w w.heap.size A la) (hA' : Evs w w.heap.size A' lb) :
    Calls Try.prog 27 #[.slice A p c, .slice A' q c', .int .i64 n] w fun e w' => e = .returned (.bool (eqAns la lb n)) ∧ Below w.heap.size w w' := by
  have HE := Lib.hid (equiv_any la lb p q hp hq hpl hql n A A' c c' hpc hqc w hA hA')
  have hx : eqCode la lb n ≠ 0 → eqAns la lb n = false := fun h => by unfold eqAns; rw [decide_eq_false h]; rfl
  have HX := Lib.hid hx
  clear hA hA' hp hq hx
  go_enter Try.func27, Try.ntmps27
  go_wp2_with fail
  with_reducible refine HE.out.mono ?_
  rintro e w1 ⟨rfl, hb⟩
  have HB := Lib.hid hb
  clear hb HE
  by_cases h0 : eqCode la lb n = 0
  · rw [h0]
    cases hans : eqAns la lb n
    · have HN := Lib.hid hans
      clear hans HX h0
      go_wp2_with fail
      go_ret
      exact ⟨by rw [HN.out]; rfl, HB.out⟩
    · have HN := Lib.hid hans
      clear hans HX h0
      go_wp2_with fail
      go_ret
      exact ⟨by rw [HN.out]; rfl, HB.out⟩
  · have HN := Lib.hid (HX.out h0)
    rw [HN.out]
    clear HX
    have d0 : (((eqCode la lb n : Nat) : Int) == 0) = false := by rw [beq_eq_false_iff_ne]; omega
    generalize eqCode la lb n = x at *
    clear h0
    go_wp2_with fail
    go_ret
    exact ⟨by rw [HN.out]; rfl, HB.out⟩
end Go.Proofs.Ytaalinhkikmfaaa
end

section
set_option linter.unusedSimpArgs false
set_option linter.unusedVariables false
namespace Go.Proofs.Ytaalinhkikmfaaa
open Go.RowKit

theorem flatK_ge (f : Nat → List Nat) (i : Nat) : ∀ K, i < K → (f i).length ≤ (flatK f K).length
  | 0, h => by omega
  | K + 1, h => by
    rw [flatK_succ, List.length_append]
    by_cases e : i = K
    · subst e; omega
    · have := flatK_ge f i K (by omega); omega
theorem Evs.step {w w' : World} {A : Option Addr} {l : List Ev} (h : Evs w w.heap.size A l) (hb : Below w.heap.size w w') : Evs w' w'.heap.size A l := (h.below hb).more hb.size
theorem swL_tq {l : List Ev} {p : Nat} (h : p + 1 < l.length) (ht : (ev l p).t ≠ (ev l (p + 1)).t) {n : Int} (h1 : wrongE l n = 0) : eqAns l (swL l p) n = (!dpd (ev l p) (ev l (p + 1))) ∧ decide (leastE (swL l p) = leastE l) = (!dpd (ev l p) (ev l (p + 1))) := by
  have h2 := swL_free h ht
  refine ⟨by rw [eqAns_tq h1 (wrong_swL h1 p h), h2], ?_⟩
  rw [← h2]
  exact decide_eq_decide.2 ⟨fun e => e.symm, fun e => e.symm⟩
set_option maxRecDepth 100000 in
set_option maxHeartbeats 16000000 in
theorem normone_walk (l : List Ev) (A : Option Addr) (cap : Nat) (n at_ : Int) (w : World) (hA : Evs w w.heap.size A l) (hA0 : A = none → l.length = 0) (hl : l.length ≤ 140737488351232) (hcap_ : l.length ≤ cap)
    (hat : (-9223372036854775808 : Int) ≤ at_ ∧ at_ ≤ 9223372036854775807) :
    Calls Try.prog 5 #[.slice A l.length cap, .int .i64 n, .int .i64 at_] w fun e w' => e = .returned (.bool true) ∧ Below w.heap.size w w' := by
  have HA := Lib.hid hA; have HA0 := Lib.hid hA0; have HAT := Lib.hid hat
  clear hA hA0 hat
  obtain ⟨m, hm⟩ : ∃ m, m = l.length := ⟨_, rfl⟩
  have HM := Lib.hid hm
  rw [← hm] at HA0 hl hcap_ ⊢
  have HCAP := Lib.hid hcap_
  clear hm
  go_enter Try.func5, Try.ntmps5
  go_wp2_with fail
  refine (known15 w).mono ?_
  rintro e w1 ⟨rfl, hb1⟩
  have HB1 := Lib.hid hb1
  have HA1 := Lib.hid (HA.out.step hb1)
  clear hb1
  by_cases hm60 : 60 < m
  · go_wp2_with fail
    go_ret
    exact ⟨rfl, HB1.out⟩
  have HL := Lib.hid (least_any l m HM.out (by omega) n A cap HCAP.out w1 HA1.out)
  go_wp2_with fail
  with_reducible refine HL.out.mono ?_
  rintro e w2 ⟨hb2, hcase⟩
  have HB2 := Lib.hid (HB1.out.trans (hb2.mono HB1.out.size))
  have HA2 := Lib.hid (HA1.out.step hb2)
  have HV := Lib.hid (levels_any l m HM.out (by omega) n A cap HCAP.out w2 HA2.out)
  clear hb2 HL
  rcases hcase with ⟨hw, rfl⟩ | ⟨hw, x, rfl, hx, _⟩
  · go_wp2_with fail
    with_reducible refine HV.out.mono ?_
    rintro e w3 ⟨hb3, ⟨_, rfl⟩ | ⟨h, _⟩⟩
    rotate_left
    · exact absurd h hw
    have HB3 := Lib.hid (HB2.out.trans (hb3.mono HB2.out.size))
    have d0 : (((wrongE l n : Nat) : Int) == 0) = false := by rw [beq_eq_false_iff_ne]; omega
    have d1 : (((wrongE l n : Nat) : Int) != 0) = true := by rw [bne_iff_ne]; omega
    generalize wrongE l n = we at *
    clear hw hb3 HV
    go_wp2_with fail
    go_ret
    exact ⟨rfl, HB3.out⟩
  have HWR := Lib.hid hw
  obtain ⟨x1, x2, x3, x4⟩ := wrong_ok hw
  obtain ⟨n, rfl⟩ := Int.eq_ofNat_of_zero_le (show 0 ≤ n by omega)
  have HG := Lib.hid (fun j (hj : j < l.length) => good_at x4 hj)
  rw [← HM.out] at hx
  obtain ⟨Ax, cx, rfl, hrx, hx0, hxc⟩ := own_rd hx
  have HX := Lib.hid hrx
  clear hw hx hrx x3 x4 hx0 hxc
  go_wp2_with fail
  with_reducible refine HV.out.mono ?_
  rintro e w3 ⟨hb3, ⟨h, _⟩ | ⟨_, v, val, rfl, ho, hF, _⟩⟩
  · exact absurd HWR.out h
  obtain ⟨Av, cv, rfl, hKc, hRN⟩ := rowsN_of ho hF
  rw [Int.toNat_natCast] at hRN
  have HB3 := Lib.hid (HB2.out.trans (hb3.mono HB2.out.size))
  have HA3 := Lib.hid (HA2.out.step hb3)
  have HX3 := Lib.hid ((HX.out.below hb3).more hb3.size)
  have HRN := Lib.hid hRN
  have HK : Hid (nlv l ≤ 60) := Lib.hid (by have := nlvK_le l l.length; have := HM.out; unfold nlv; omega)
  have HG2 := Lib.hid (fun j (hj : j < l.length) => (⟨(HG.out j hj).1, (HG.out j hj).2⟩ : 0 ≤ (ev l j).t ∧ (ev l j).t < n))
  have HFL : Hid (m = (flatK (lrow l n) (nlv l)).length) := Lib.hid (by rw [HM.out]; exact (flatL_len HG2.out).symm)
  clear hb3 ho hF hRN HV HX hKc
  generalize hK : nlv l = K at *
  have hK60 := HK.out
  have hm5 : m ≤ 60 := by omega
  have HT1 := Lib.hid (at_any l m HM.out (by omega) A cap (leastX l) (leastX_gr l).dn (by rw [leastX_len]; exact HM.out) Ax cx w3.heap.size w3 HA3.out HX3.out (Nat.le_refl _))
  go_wp2_with fail
  with_reducible refine HT1.out.mono ?_
  rintro e w4 ⟨A4, c4, rfl, he4, h04, hc4, hb4⟩
  have HB4 := Lib.hid (HB3.out.trans (hb4.mono HB3.out.size))
  have HA4 := Lib.hid (HA3.out.step hb4)
  have HE4 := Lib.hid (show Evs w4 w4.heap.size A4 (leastE l) from he4)
  have HC4 := Lib.hid hc4
  have HRN4 := Lib.hid ((HRN.out.below hb4).more hb4.size)
  clear he4 h04 hc4 hb4 HT1 HRN HA3
  have HFA := Lib.hid (flat_any K (by omega) (lrow l n) (fun i hi => by have := flatK_ge (lrow l n) i K hi; rw [← HFL.out] at this; omega) Av cv w4.heap.size w4 HRN4.out (Nat.le_refl _))
  go_wp2_with fail
  with_reducible refine HFA.out.mono ?_
  rintro e w5 ⟨A5, c5, q, rfl, hq, hr5, hb5⟩
  rw [← HFL.out] at hq
  subst hq
  have HB5 := Lib.hid (HB4.out.trans (hb5.mono HB4.out.size))
  have HA5 := Lib.hid (HA4.out.step hb5)
  have HE5 := Lib.hid (HE4.out.step hb5)
  have HR5 := Lib.hid (show Rd w5 w5.heap.size A5 (icl (flatL l n)) by unfold flatL; rw [hK]; exact hr5)
  clear hr5 hb5 HFA HA4 HE4 HRN4
  have HT2 := Lib.hid (at_any l q HM.out (by omega) A cap (flatL l n) (flatL_dn HG2.out) (by rw [flatL_len HG2.out]; exact HM.out) A5 c5 w5.heap.size w5 HA5.out HR5.out (Nat.le_refl _))
  go_wp2_with fail
  with_reducible refine HT2.out.mono ?_
  rintro e w6 ⟨A6, c6, rfl, he6, h06, hc6, hb6⟩
  have HB6 := Lib.hid (HB5.out.trans (hb6.mono HB5.out.size))
  have HA6 := Lib.hid (HA5.out.step hb6)
  have HE6 := Lib.hid (HE5.out.step hb6)
  have HF6 := Lib.hid he6
  have HC6 := Lib.hid hc6
  clear he6 h06 hc6 hb6 HT2 HA5 HE5 HR5
  have HLW : Hid (wrongE (leastE l) n = 0) := Lib.hid (leastE_wrong HWR.out)
  have HLL : Hid (q = (leastE l).length) := Lib.hid (by rw [leastE_len]; exact HM.out)
  have HFW : Hid (wrongE ((flatL l n).map (ev l)) n = 0) := Lib.hid (wrong_map HWR.out (flatL_dn HG2.out).lt (by rw [flatL_len HG2.out]; exact Nat.le_refl _))
  have HQ1 := Lib.hid (equivalent_any l (leastE l) q q HM.out HLL.out (by omega) (by omega) n A A4 cap c4 HCAP.out HC4.out w6 HA6.out HE6.out)
  rw [eqAns_yes HWR.out HLW.out (leastE_tq l)] at HQ1
  go_wp2_with fail
  with_reducible refine HQ1.out.mono ?_
  rintro e w7 ⟨rfl, hb7⟩
  have HB7 := Lib.hid (HB6.out.trans (hb7.mono HB6.out.size))
  have HA7 := Lib.hid (HA6.out.step hb7)
  have HE7 := Lib.hid (HE6.out.step hb7)
  have HF7 := Lib.hid (HF6.out.step hb7)
  clear hb7 HQ1 HA6 HE6 HF6
  have HQ2 := Lib.hid (equivalent_any ((flatL l n).map (ev l)) l q q (by rw [List.length_map, flatL_len HG2.out]; exact HM.out) HM.out (by omega) (by omega) n A6 A c6 cap HC6.out HCAP.out w7 HF7.out HA7.out)
  rw [eqAns_yes HFW.out HWR.out (flatL_tq HG2.out).symm] at HQ2
  go_wp2_with fail
  with_reducible refine HQ2.out.mono ?_
  rintro e w8 ⟨rfl, hb8⟩
  have HB8 := Lib.hid (HB7.out.trans (hb8.mono HB7.out.size))
  have HA8 := Lib.hid (HA7.out.step hb8)
  have HE8 := Lib.hid (HE7.out.step hb8)
  clear hb8 HQ2 HA7 HE7 HF7
  have HL9 := Lib.hid (least_any (leastE l) q HLL.out (by omega) n A4 c4 HC4.out w8 HE8.out)
  go_wp2_with fail
  with_reducible refine HL9.out.mono ?_
  rintro e w9 ⟨hb9, ⟨h, _⟩ | ⟨_, x9, rfl, hx9, _⟩⟩
  · exact absurd HLW.out h
  rw [← HLL.out] at hx9
  obtain ⟨A9, c9, rfl, hr9, _, _⟩ := own_rd hx9
  have HB9 := Lib.hid (HB8.out.trans (hb9.mono HB8.out.size))
  have HA9 := Lib.hid (HA8.out.step hb9)
  have HE9 := Lib.hid (HE8.out.step hb9)
  have HR9 := Lib.hid hr9
  clear hb9 hx9 hr9 HL9 HA8 HE8
  have HT10 := Lib.hid (at_any (leastE l) q HLL.out (by omega) A4 c4 (leastX (leastE l)) (leastX_gr _).dn (by rw [leastX_len]; exact HLL.out) A9 c9 w9.heap.size w9 HE9.out HR9.out (Nat.le_refl _))
  go_wp2_with fail
  with_reducible refine HT10.out.mono ?_
  rintro e w10 ⟨A10, c10, rfl, he10, h010, hc10, hb10⟩
  have HB10 := Lib.hid (HB9.out.trans (hb10.mono HB9.out.size))
  have HA10 := Lib.hid (HA9.out.step hb10)
  have HE10 := Lib.hid (HE9.out.step hb10)
  have HO10 := Lib.hid (show Evs w10 w10.heap.size A10 (leastE l) from leastE_own l ▸ he10)
  clear he10 h010 hc10 hb10 HT10 HA9 HE9 HR9
  have HS11 := Lib.hid (same_evs (leastE l) (leastE l) q q HLL.out HLL.out (by omega) (by omega) A10 A4 c10 c4 w10.heap.size w10 HO10.out HE10.out (Nat.le_refl _))
  rw [decide_eq_true (rfl : leastE l = leastE l)] at HS11
  go_wp2_with fail
  with_reducible refine HS11.out.mono ?_
  rintro e w11 ⟨rfl, hb11⟩
  have HB11 := Lib.hid (HB10.out.trans (hb11.mono HB10.out.size))
  have HA11 := Lib.hid (HA10.out.step hb11)
  have HE11 := Lib.hid (HE10.out.step hb11)
  clear hb11 HS11 HA10 HE10 HO10
  by_cases hk2 : q < 2
  · go_wp2_with fail
    go_ret
    exact ⟨rfl, HB11.out⟩
  have HP := Lib.hid (pick_any at_ ((q : Int) - 1) HAT.out (by omega) (by omega))
  have hp1 := Int.emod_nonneg at_ (show (q : Int) - 1 ≠ 0 by omega)
  have hp2 := Int.emod_lt_of_pos at_ (show 0 < (q : Int) - 1 by omega)
  obtain ⟨p, hp⟩ := Int.eq_ofNat_of_zero_le hp1
  have hpe : pick at_ ((q : Int) - 1) = p := by unfold pick; rw [if_neg (by omega)]; exact hp
  rw [hp] at hp2
  rw [hpe] at HP
  clear hp hp1 hpe
  have hpk : p + 1 < q := by omega
  clear hp2
  go_wp2_with fail
  with_reducible refine (HP.out _).mono ?_
  rintro e w12 ⟨rfl, rfl⟩
  clear HP
  have HCP := Lib.hid (copy_events l (by have := HM.out; omega) A cap w11 HA11.out (by rw [← HM.out]; exact HA0.out))
  rw [← HM.out] at HCP
  go_wp2_with fail
  with_reducible refine HCP.out.mono ?_
  rintro e w12 ⟨v, rfl, hv, hb12⟩
  have HB12 := Lib.hid (HB11.out.trans (hb12.mono HB11.out.size))
  have HA12 := Lib.hid (HA11.out.step hb12)
  have HE12 := Lib.hid (HE11.out.step hb12)
  have HAB := Lib.hid (HA.out.below HB12.out)
  obtain ⟨b, o, rfl, hb0, h1, h2, h3⟩ := HA.out p (by rw [← HM.out]; omega)
  obtain ⟨_, _, e, _, h4, h5, h6⟩ := HA.out (p + 1) (by rw [← HM.out]; omega)
  injection e with e; injection e with e1 e2; subst e1 e2
  have T : Hid (∀ W, Below w.heap.size w W → (W.cell? ⟨b, o + p * 3, none⟩ = some (.int .i64 (ev l p).t) ∧ W.cell? ⟨b, o + p * 3 + 1, none⟩ = some (.int .i64 (ev l p).k) ∧ W.cell? ⟨b, o + p * 3 + 2, none⟩ = some (.int .i64 (ev l p).o)) ∧ (W.cell? ⟨b, o + (p + 1) * 3, none⟩ = some (.int .i64 (ev l (p + 1)).t) ∧ W.cell? ⟨b, o + (p + 1) * 3 + 1, none⟩ = some (.int .i64 (ev l (p + 1)).k) ∧ W.cell? ⟨b, o + (p + 1) * 3 + 2, none⟩ = some (.int .i64 (ev l (p + 1)).o))) := Lib.hid (fun W hX =>
    ⟨⟨(hX.cell (p := ⟨b, o + p * 3, none⟩) hb0).trans h1, (hX.cell (p := ⟨b, o + p * 3 + 1, none⟩) hb0).trans h2, (hX.cell (p := ⟨b, o + p * 3 + 2, none⟩) hb0).trans h3⟩, (hX.cell (p := ⟨b, o + (p + 1) * 3, none⟩) hb0).trans h4, (hX.cell (p := ⟨b, o + (p + 1) * 3 + 1, none⟩) hb0).trans h5, (hX.cell (p := ⟨b, o + (p + 1) * 3 + 2, none⟩) hb0).trans h6⟩)
  have HBX := Lib.hid hb12
  clear h1 h2 h3 h4 h5 h6 hb12 HCP
  rcases hv.2 with ⟨rfl, h0⟩ | ⟨g, c7, cur, rfl, hg1, hg, hc1, hc2, hsz, htk⟩
  · omega
  go_upto_region 18 with (fail)
  obtain ⟨⟨r1, r2, r3⟩, r4, r5, r6⟩ := T.out w12 HB12.out
  have hbg : b ≠ g := by have := HB11.out.size; omega
  have hgb : g ≠ b := fun e => hbg e.symm
  have rd : ∀ j u, (evcells l)[j]? = some u → w12.cell? ⟨g, j, none⟩ = some u := fun j u hu => by
    rw [cell_blk hg]
    rw [← htk, List.getElem?_take] at hu
    split at hu
    · simpa using hu
    · cases hu
  have gt : ∀ j, j < q * 3 → (evcells l)[j]? = some (evc (ev l (j / 3)) (j % 3)) := fun j hj => evcells_get l j (by have := HM.out; omega)
  have s1 := rd (p * 3) _ (gt _ (by omega))
  have s2 := rd (p * 3 + 1) _ (gt _ (by omega))
  have s3 := rd (p * 3 + 2) _ (gt _ (by omega))
  have s4 := rd ((p + 1) * 3) _ (gt _ (by omega))
  have s5 := rd ((p + 1) * 3 + 1) _ (gt _ (by omega))
  have s6 := rd ((p + 1) * 3 + 2) _ (gt _ (by omega))
  have fz : ∀ j, w12.frozen? ⟨g, j, none⟩ = false := fun j => free_blk hg j
  have g1 : (0 : Int) ≤ p := by omega
  have g2 : (p : Int) < q := by omega
  have g3 : (p : Int) + 1 < q := by omega
  have hwp : IntKind.i64.wrap ((p : Int) + 1) = (p : Int) + 1 := wi64 _ (by omega) (by omega)
  have g4 : (0 : Int) ≤ (p : Int) + 1 := by omega
  have HCUR := Lib.hid hg
  have HTK := Lib.hid htk
  have HSZ := Lib.hid hsz
  clear rd gt hg htk hsz
  go_region
  have HSW := Lib.hid (sw6_evs (B := w12.heap.size) HCUR.out HTK.out HM.out hpk (by have := HSZ.out; have := Nat.mul_le_mul_right 3 hc1; omega) (lt_blk HCUR.out))
  have HGR := Lib.hid (sw6_grown w12 g p (p + 1) (ev l p) (ev l (p + 1)))
  unfold sw6 at HSW HGR
  generalize hW13 : World.drew _ = w13 at *
  have hgw : w11.heap.size ≤ g := hg1
  have HB13 : Hid (Below w.heap.size w w13) := Lib.hid (HB12.out.grown HGR.out HB12.out.size (by intro q e; injection e with e; have := HB11.out.size; omega))
  have HBX13 : Hid (Below w11.heap.size w11 w13) := Lib.hid (HBX.out.grown HGR.out HBX.out.size (by intro q e; injection e with e; omega))
  have HA13 := Lib.hid (HA11.out.step HBX13.out)
  have HE13 := Lib.hid (HE11.out.step HBX13.out)
  have HS13 := Lib.hid (HSW.out.more HGR.out.size)
  clear r1 r2 r3 r4 r5 r6 s1 s2 s3 s4 s5 s6 fz hW13 HA11 HE11 HA12 HE12 HAB HBX HBX13 HSW HGR HCUR HTK HSZ hv
  have hc7 : q ≤ c7 := hc1
  have HC7 := Lib.hid hc7
  by_cases ht : (ev l p).t = (ev l (p + 1)).t
  · have d0 : ((ev l p).t == (ev l (p + 1)).t) = true := by rw [beq_iff_eq]; exact ht
    clear ht
    go_upto_region 19 with (fail)
    apply wp_region_relH (H := []) 12 [(Sum.inl _ : TT), (Sum.inl _ : TT), (Sum.inl _ : TT), (Sum.inl _ : TT), (Sum.inl _ : TT), (Sum.inl _ : TT), (Sum.inl _ : TT), (Sum.inl _ : TT), (Sum.inl _ : TT), (Sum.inl _ : TT), (Sum.inl _ : TT), (Sum.inl _ : TT)] (by kernel_rfl) (by kernel_rfl) (fun _ _ _ _ _ h => h) rfl
    simp only [List.take_succ_cons, List.take_zero, List.drop_succ_cons, List.drop_zero]
    iterate 12 (apply rel_isS; (intro W hW hf; obtain ⟨⟨hx1, hx2, hx3⟩, hx4, hx5, hx6⟩ := T.out W (HB13.out.trans (hW.mono HB13.out.size)); go_simp; first | exact ⟨StayS.refl _ _, rfl⟩ | rfl); simp only [Act.put, List.setIfInBounds_toArray, List.set_cons_succ, List.set_cons_zero])
    refine rel_endS ?_
    intro W hW hf
    try simp only [Act.put, List.setIfInBounds_toArray, List.set_cons_succ, List.set_cons_zero]
    refine wpList_nil ?_
    have HB14 := Lib.hid (HB13.out.trans (hW.mono HB13.out.size))
    clear hW hf
    go_wp2_with fail
    go_ret
    exact ⟨rfl, HB14.out⟩
  have HD := Lib.hid (swL_tq (show p + 1 < l.length by rw [← HM.out]; exact hpk) ht HWR.out)
  have d0 : ((ev l p).t == (ev l (p + 1)).t) = false := by rw [beq_eq_false_iff_ne]; exact ht
  clear ht
  go_upto_region 19 with (fail)
  apply wp_region_relH (H := []) 12 [(Sum.inl _ : TT), (Sum.inl _ : TT), (Sum.inl _ : TT), (Sum.inl _ : TT), (Sum.inl _ : TT), (Sum.inl _ : TT), (Sum.inl _ : TT), (Sum.inl _ : TT), (Sum.inl _ : TT), (Sum.inl _ : TT), (Sum.inl _ : TT), (Sum.inl _ : TT)] (by kernel_rfl) (by kernel_rfl) (fun _ _ _ _ _ h => h) rfl
  simp only [List.take_succ_cons, List.take_zero, List.drop_succ_cons, List.drop_zero]
  iterate 12 (apply rel_isS; (intro W hW hf; obtain ⟨⟨hx1, hx2, hx3⟩, hx4, hx5, hx6⟩ := T.out W (HB13.out.trans (hW.mono HB13.out.size)); go_simp; first | exact ⟨StayS.refl _ _, rfl⟩ | rfl); simp only [Act.put, List.setIfInBounds_toArray, List.set_cons_succ, List.set_cons_zero])
  refine rel_endS ?_
  intro W hW hf
  try simp only [Act.put, List.setIfInBounds_toArray, List.set_cons_succ, List.set_cons_zero]
  refine wpList_nil ?_
  have HB14 := Lib.hid (HB13.out.trans (hW.mono HB13.out.size))
  have HA14 := Lib.hid (HA13.out.step hW)
  have HE14 := Lib.hid (HE13.out.step hW)
  have HS14 := Lib.hid (HS13.out.step hW)
  clear hW hf d0 HA13 HE13 HS13
  have DP : Hid (∀ W, Calls Try.prog 31 #[.agg #[.int .i64 (ev l p).t, .int .i64 (ev l p).k, .int .i64 (ev l p).o], .agg #[.int .i64 (ev l (p + 1)).t, .int .i64 (ev l (p + 1)).k, .int .i64 (ev l (p + 1)).o]] W fun e W' => ∃ v, e = .returned v ∧ Below W.heap.size W W' ∧ ttHolds (.inl (.bool (dpd (ev l p) (ev l (p + 1))))) v W') := Lib.hid (fun W =>
    (depends_any (ev l p) (ev l (p + 1)) W).mono fun e w' ⟨h1, h2⟩ => ⟨_, h1, h2, rfl⟩)
  generalize dpd (ev l p) (ev l (p + 1)) = d at *
  go_upto_region 21 with (fail)
  apply wp_region_relH (H := []) 12 [(Sum.inl _ : TT), (Sum.inl _ : TT), (Sum.inl _ : TT), (Sum.inl _ : TT), (Sum.inl _ : TT), (Sum.inl _ : TT), (Sum.inl _ : TT), (Sum.inl _ : TT), (Sum.inl _ : TT), (Sum.inl _ : TT), (Sum.inl _ : TT), (Sum.inl _ : TT)] (by kernel_rfl) (by kernel_rfl) (fun _ _ _ _ _ h => h) rfl
  simp only [List.take_succ_cons, List.take_zero, List.drop_succ_cons, List.drop_zero]
  iterate 9 (apply rel_isS; (intro W hW hf; obtain ⟨⟨hx1, hx2, hx3⟩, hx4, hx5, hx6⟩ := T.out W (HB14.out.trans (hW.mono HB14.out.size)); go_simp; first | exact ⟨StayS.refl _ _, rfl⟩ | rfl); simp only [Act.put, List.setIfInBounds_toArray, List.set_cons_succ, List.set_cons_zero])
  apply rel_isS
  · intro W hW hf
    exact rel_callS hW rfl (by go_simp <;> first | rfl | exact ⟨rfl, rfl⟩ | exact ⟨rfl, rfl, rfl⟩) (DP.out W)
  simp only [Act.put, List.setIfInBounds_toArray, List.set_cons_succ, List.set_cons_zero]
  iterate 2 (apply rel_isS; (intro W hW hf; go_simp; first | exact ⟨StayS.refl _ _, rfl⟩ | rfl); simp only [Act.put, List.setIfInBounds_toArray, List.set_cons_succ, List.set_cons_zero])
  refine rel_endS ?_
  intro W hW hf
  try simp only [Act.put, List.setIfInBounds_toArray, List.set_cons_succ, List.set_cons_zero]
  refine wpList_nil ?_
  have HB15 := Lib.hid (HB14.out.trans (hW.mono HB14.out.size))
  have HA15 := Lib.hid (HA14.out.step hW)
  have HE15 := Lib.hid (HE14.out.step hW)
  have HS15 := Lib.hid (HS14.out.step hW)
  clear hW hf HA14 HE14 HS14 DP T
  generalize (!d) = fr at *
  have HWS : Hid (wrongE (swL l p) n = 0) := Lib.hid (wrong_swL HWR.out p (by rw [← HM.out]; exact hpk))
  have HLS : Hid (q = (swL l p).length) := Lib.hid (by rw [swL_length]; exact HM.out)
  have HL16 := Lib.hid (least_any (swL l p) q HLS.out (by omega) n (some ⟨g, 0, none⟩) c7 HC7.out W HS15.out)
  go_wp2_with fail
  with_reducible refine HL16.out.mono ?_
  rintro e w16 ⟨hb16, ⟨h, _⟩ | ⟨_, x16, rfl, hx16, _⟩⟩
  · exact absurd HWS.out h
  rw [← HLS.out] at hx16
  obtain ⟨A16, c16, rfl, hr16, _, _⟩ := own_rd hx16
  have HB16 := Lib.hid (HB15.out.trans (hb16.mono HB15.out.size))
  have HA16 := Lib.hid (HA15.out.step hb16)
  have HE16 := Lib.hid (HE15.out.step hb16)
  have HS16 := Lib.hid (HS15.out.step hb16)
  have HR16 := Lib.hid hr16
  clear hb16 hx16 hr16 HL16 HA15 HE15 HS15
  have HQ17 := Lib.hid (equivalent_any l (swL l p) q q HM.out HLS.out (by omega) (by omega) n (some ⟨b, o, none⟩) (some ⟨g, 0, none⟩) cap c7 HCAP.out HC7.out w16 HA16.out HS16.out)
  rw [HD.out.1] at HQ17
  go_wp2_with fail
  with_reducible refine HQ17.out.mono ?_
  rintro e w17 ⟨rfl, hb17⟩
  have HB17 := Lib.hid (HB16.out.trans (hb17.mono HB16.out.size))
  have HE17 := Lib.hid (HE16.out.step hb17)
  have HS17 := Lib.hid (HS16.out.step hb17)
  have HR17 := Lib.hid ((HR16.out.below hb17).more hb17.size)
  clear hb17 HQ17 HA16 HE16 HS16 HR16
  have HT18 := Lib.hid (at_any (swL l p) q HLS.out (by omega) (some ⟨g, 0, none⟩) c7 (leastX (swL l p)) (leastX_gr _).dn (by rw [leastX_len]; exact HLS.out) A16 c16 w17.heap.size w17 HS17.out HR17.out (Nat.le_refl _))
  go_wp2_with fail
  with_reducible refine HT18.out.mono ?_
  rintro e w18 ⟨A18, c18, rfl, he18, h018, hc18, hb18⟩
  have HB18 := Lib.hid (HB17.out.trans (hb18.mono HB17.out.size))
  have HE18 := Lib.hid (HE17.out.step hb18)
  have HO18 := Lib.hid (show Evs w18 w18.heap.size A18 (leastE (swL l p)) from he18)
  clear he18 h018 hc18 hb18 HT18 HE17 HS17 HR17
  have HS19 := Lib.hid (same_evs (leastE (swL l p)) (leastE l) q q (by rw [leastE_len]; exact HLS.out) HLL.out (by omega) (by omega) A18 A4 c18 c4 w18.heap.size w18 HO18.out HE18.out (Nat.le_refl _))
  rw [HD.out.2] at HS19
  go_wp2_with fail
  with_reducible refine HS19.out.mono ?_
  rintro e w19 ⟨rfl, hb19⟩
  have HB19 := Lib.hid (HB18.out.trans (hb19.mono HB18.out.size))
  clear hb19
  go_wp2_with fail
  go_ret
  exact ⟨rfl, HB19.out⟩
theorem normone_row (l : List Ev) (A : Option Addr) (cap : Nat) (n at_ : Int) (w : World) (hA : Evs w w.heap.size A l) (hA0 : A = none → l.length = 0) (hl : l.length ≤ 140737488351232) (hcap : l.length ≤ cap)
    (_ : (-9223372036854775808 : Int) ≤ n ∧ n ≤ 9223372036854775807) (hat : (-9223372036854775808 : Int) ≤ at_ ∧ at_ ≤ 9223372036854775807) :
    Calls Try.prog 5 #[.slice A l.length cap, .int .i64 n, .int .i64 at_] w fun e w' => e = .returned (.bool true) ∧ Below w.heap.size w w' :=
  normone_walk l A cap n at_ w hA hA0 hl hcap hat
end Go.Proofs.Ytaalinhkikmfaaa
end
