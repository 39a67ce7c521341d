/- several texts in one: the same lists of numbers, of unlike lengths; a Levels' answer as such., assizelaw15.form: where the answer is yes., assizelaw15.awake, NormKnown. -/
import Derived.Test.YtaalinhkikmfaaaMg6
import Derived.Test.YtaalinhkikmfaaaCj
import Derived.Test.YtaalinhkikmfaaaEk
import Derived.Test.YtaalinhkikmfaaaEj
import Derived.Test.YtaalinhkikmfaaaEg
section
set_option linter.unusedSimpArgs false
set_option linter.unusedVariables false
namespace Go.Proofs.Ytaalinhkikmfaaa
open Go.RowKit

def RowsN (w : World) (B : Nat) (A : Option Addr) (K : Nat) (f : Nat → List Nat) : Prop :=
  ∀ i, i < K → ∃ b o Ai ci, A = some ⟨b, o, none⟩ ∧ b < B ∧ w.cell? ⟨b, o + i, none⟩ = some (.slice Ai (f i).length ci) ∧ Ints w B Ai (f i).length (fun t => (f i).getD t 0)
theorem RowsN.keep {w w' : World} {B K : Nat} {A : Option Addr} {f : Nat → List Nat} (h : RowsN w B A K f) (hk : ∀ b o, b < B → w'.cell? ⟨b, o, none⟩ = w.cell? ⟨b, o, none⟩) : RowsN w' B A K f := fun i hi => by
  obtain ⟨b, o, Ai, ci, e, h1, h2, h3⟩ := h i hi
  refine ⟨b, o, Ai, ci, e, h1, (hk _ _ h1).trans h2, fun t ht => ?_⟩
  obtain ⟨b', o', e', h1', h2'⟩ := h3 t ht
  exact ⟨b', o', e', h1', (hk _ _ h1').trans h2'⟩
theorem RowsN.below {w w' : World} {B K : Nat} {A : Option Addr} {f : Nat → List Nat} (h : RowsN w B A K f) (hb : Below B w w') : RowsN w' B A K f := h.keep fun b o hbB => hb.cell (p := ⟨b, o, none⟩) hbB
theorem RowsN.more {w : World} {B B' K : Nat} {A : Option Addr} {f : Nat → List Nat} (h : RowsN w B A K f) (hB : B ≤ B') : RowsN w B' A K f := fun i hi => by
  obtain ⟨b, o, Ai, ci, e, h1, h2, h3⟩ := h i hi
  refine ⟨b, o, Ai, ci, e, by omega, h2, fun t ht => ?_⟩
  obtain ⟨b', o', e', h1', h2'⟩ := h3 t ht
  exact ⟨b', o', e', by omega, h2'⟩
theorem ints_icl {w : World} {A : Option Addr} {js : List Nat} (h : Rd w w.heap.size A (icl js)) : Ints w w.heap.size A js.length (fun t => js.getD t 0) := fun t ht => by
  obtain ⟨b, o, e, hb, hc⟩ := h t (.int .i64 (js[t] : Nat)) (icl_get ht)
  refine ⟨b, o, e, hb, hc.trans ?_⟩
  simp [List.getD_eq_getElem?_getD, ht]
/-- rows that a function gave. -/
theorem rowsN_of {w : World} {B K : Nat} {v : Value} {val : Nat → Value} {f : Nat → List Nat} (ho : w.ownsRow B 23 1 v K ((List.range K).map val)) (hF : Fam w B K val f) : ∃ A c, v = .slice A K c ∧ K ≤ c ∧ RowsN w w.heap.size A K f := by
  obtain ⟨A, c, rfl, hr, _, hc⟩ := own_rd ho
  refine ⟨A, c, rfl, hc, fun i hi => ?_⟩
  obtain ⟨Ai, ci, e, hri, _⟩ := own_rd (hF.own i hi)
  obtain ⟨b, o, e2, hb, hcell⟩ := hr i (val i) (by simp [hi])
  exact ⟨b, o, Ai, ci, e2, hb, by rw [hcell, e], ints_icl hri⟩
set_option maxRecDepth 100000 in
set_option maxHeartbeats 4000000 in
theorem same_rowsN (m : Nat) (hm : m ≤ 4611686018427387904) (f : Nat → List Nat) (hf : ∀ i, i < m → (f i).length ≤ 4611686018427387904) (A A' : Option Addr) (c c' B : Nat) (w : World) (hA : RowsN w B A m f) (hA' : RowsN w B A' m f) (hB : B ≤ w.heap.size) :
    Calls Try.prog 19 #[.slice A m c, .slice A' m c'] w fun e w' => e = .returned (.bool true) ∧ Below w.heap.size w w' := by
  have HA := Lib.hid hA; have HA' := Lib.hid hA'; have HF := Lib.hid hf
  clear hA hA' hf
  go_enter Try.func19, Try.ntmps19
  go_wp2_with fail
  go_loopw [5] (fun i wr => ∃ k : Nat, k ≤ m ∧ i = .int .i64 k ∧ Below w.heap.size w wr) (fun i _ => m - (intOf i).toNat)
  case atStart => exact ⟨0, by omega, rfl, Below.refl _ _⟩
  case round =>
    obtain ⟨k, hk, rfl, hb⟩ := hrel
    have Hb := Lib.hid hb
    clear hb
    by_cases hlt : k < m
    · obtain ⟨b, o, Ai, ci, rfl, h0, h1, h3⟩ := HA.out k hlt
      obtain ⟨b', o', Ai', ci', rfl, h0', h2, h4⟩ := HA'.out k hlt
      obtain ⟨n, hn⟩ : ∃ n, n = (f k).length := ⟨_, rfl⟩
      have hnl : n ≤ 4611686018427387904 := by rw [hn]; exact HF.out k hlt
      rw [← hn] at h1 h2 h3 h4
      clear hn
      have T : Hid (∀ W, Below wr.heap.size wr W → W.cell? ⟨b, o + k, none⟩ = some (.slice Ai n ci) ∧ W.cell? ⟨b', o' + k, none⟩ = some (.slice Ai' n ci')) := Lib.hid (fun W hW => by
        have hW := Hb.out.trans (hW.mono Hb.out.size)
        exact ⟨(hW.cell (p := ⟨b, o + k, none⟩) (Nat.lt_of_lt_of_le h0 hB)).trans h1, (hW.cell (p := ⟨b', o' + k, none⟩) (Nat.lt_of_lt_of_le h0' hB)).trans h2⟩)
      have S : Hid (∀ W, Below wr.heap.size wr W → Calls Try.prog 18 #[.slice Ai n ci, .slice Ai' n ci'] W fun e w' => ∃ v, e = .returned v ∧ Below W.heap.size W w' ∧ ttHolds (.inl (.bool true)) v w') := Lib.hid (fun W hW => by
        have hX := Hb.out.trans (hW.mono Hb.out.size)
        have hI : ∀ {A3}, Ints w B A3 n (fun t => (f k).getD t 0) → Ints W B A3 n (fun t => (f k).getD t 0) := fun h t ht => by
          obtain ⟨b1, o1, e1, e2, e3⟩ := h t ht
          exact ⟨b1, o1, e1, e2, (hX.cell (p := ⟨b1, o1 + t, none⟩) (Nat.lt_of_lt_of_le e2 hB)).trans e3⟩
        exact (same_ints n hnl (fun t => (f k).getD t 0) _ _ ci ci' B W (hI h3) (hI h4) (Nat.le_trans hB hX.size)).mono fun e W' ⟨h1, h2⟩ => ⟨_, h1, h2, rfl⟩)
      clear h1 h2 h3 h4
      go_upto_region 6 with (fail)
      apply wp_region_relH (H := []) 10 [(Sum.inl _ : TT), (Sum.inl _ : TT), (Sum.inl _ : TT), (Sum.inl _ : TT), (Sum.inl _ : TT), (Sum.inl _ : TT), (Sum.inl _ : TT), (Sum.inl _ : TT), (Sum.inl _ : TT), (Sum.inl _ : TT)] (by kernel_rfl) (by kernel_rfl) (fun _ _ _ _ _ h => h) rfl
      simp only [List.take_succ_cons, List.take_zero, List.drop_succ_cons, List.drop_zero]
      iterate 8 (apply rel_isS; (intro W hW hf; obtain ⟨hx1, hx2⟩ := T.out W hW; go_simp; first | exact ⟨StayS.refl _ _, rfl⟩ | rfl); simp only [Act.put, List.setIfInBounds_toArray, List.set_cons_succ, List.set_cons_zero])
      apply rel_isS
      · intro W hW hf
        exact rel_callS hW rfl (by go_simp <;> first | rfl | exact ⟨rfl, rfl⟩ | exact ⟨rfl, rfl, rfl⟩) (S.out W hW)
      simp only [Act.put, List.setIfInBounds_toArray, List.set_cons_succ, List.set_cons_zero]
      iterate 1 (apply rel_isS; (intro W hW hf; go_simp; first | exact ⟨StayS.refl _ _, rfl⟩ | rfl); simp only [Act.put, List.setIfInBounds_toArray, List.set_cons_succ, List.set_cons_zero])
      refine rel_endS ?_
      intro W hW hf
      try simp only [Act.put, List.setIfInBounds_toArray, List.set_cons_succ, List.set_cons_zero]
      refine wpList_nil ?_
      have HW := Lib.hid (Hb.out.trans (hW.mono Hb.out.size))
      clear hW hf
      go_wp2_with fail
      go_roundw
      case rel => exact ⟨k + 1, by omega, by go_num, HW.out⟩
      case measure => simp [intOf]; omega
    · obtain rfl : k = m := by omega
      go_wp2_with fail
      go_ret
      exact ⟨rfl, Hb.out⟩
end Go.Proofs.Ytaalinhkikmfaaa
end

section
set_option linter.unusedSimpArgs false
set_option linter.unusedVariables false
namespace Go.Proofs.Ytaalinhkikmfaaa
open Go.RowKit

set_option maxRecDepth 100000 in
set_option maxHeartbeats 4000000 in
theorem form_yes (l : List Ev) (m : Nat) (hm : m = l.length) (hl : m ≤ 4611686018427387904) (A : Option Addr) (cap : Nat) (hcap : m ≤ cap) (xs : List Nat) (hx : leastX l = xs) (f : Nat → List Nat) (K : Nat) (hK : nlv l = K) (hK1 : K ≤ 4611686018427387904) (hf : ∀ k, k < K → lrow l 2 k = f k) (hf1 : ∀ k, k < K → (f k).length ≤ 4611686018427387904) (hw : wrongE l 2 = 0)
    (Ax Ay : Option Addr) (cx cy : Nat) (w : World) (hA : Evs w w.heap.size A l) (hX : Ints w w.heap.size Ax m (fun t => xs.getD t 0)) (hY : RowsN w w.heap.size Ay K f) :
    Calls Try.prog 24 #[.slice A m cap, .slice Ax m cx, .slice Ay K cy] w fun e w' => e = .returned (.bool true) ∧ Below w.heap.size w w' := by
  have HA := Lib.hid hA; have HX := Lib.hid hX; have HY := Lib.hid hY; have HM := Lib.hid hm; have HXS := Lib.hid hx; have HKE := Lib.hid hK; have HF := Lib.hid hf; have HF1 := Lib.hid hf1; have HW := Lib.hid hw
  have HL1 := Lib.hid (least_any l m hm hl 2 A cap hcap w hA)
  clear hA hX hY hm hx hK hf hf1 hw
  go_enter Try.func24, Try.ntmps24
  go_wp2_with fail
  with_reducible refine HL1.out.mono ?_
  rintro e w1 ⟨hb1, ⟨h1, _⟩ | ⟨_, v, rfl, ho, _⟩⟩
  · exact absurd HW.out h1
  obtain ⟨Av, cv, rfl, hrv, _, _⟩ := own_rd ho
  rw [← HM.out]
  have hxl : (leastX l).length = m := by have := ho.1; rw [icl_length] at this; rw [HM.out]; omega
  have HXL := Lib.hid hxl
  have HI := Lib.hid (ints_icl hrv)
  have HB1 := Lib.hid hb1
  clear ho hrv hb1 HL1 hxl
  have HL2 := Lib.hid (levels_any l m HM.out hl 2 A cap hcap w1 ((HA.out.below HB1.out).more HB1.out.size))
  go_wp2_with fail
  with_reducible refine HL2.out.mono ?_
  rintro e w2 ⟨hb2, ⟨h1, _⟩ | ⟨_, v, val, rfl, ho, hF, _⟩⟩
  · exact absurd HW.out h1
  obtain ⟨Ar, cr, rfl, _, hR⟩ := rowsN_of ho hF
  rw [HKE.out] at hR ⊢
  have HR : Hid (RowsN w2 w2.heap.size Ar K f) := Lib.hid fun i hi => by
    have := hR i hi
    rw [show (2 : Int).toNat = 2 by rfl, HF.out i hi] at this
    exact this
  have HB2 := Lib.hid hb2
  have HB02 := Lib.hid (HB1.out.trans (hb2.mono HB1.out.size))
  clear hR ho hF hb2 HL2
  have hxl := HXL.out
  have HI2 : Hid (Ints w2 w2.heap.size Av m (fun t => xs.getD t 0)) := Lib.hid fun t ht => by
    obtain ⟨b, o, e1, e2, e3⟩ := HI.out t (by rw [hxl]; exact ht)
    rw [HXS.out] at e3
    exact ⟨b, o, e1, Nat.lt_of_lt_of_le e2 HB2.out.size, (HB2.out.cell (p := ⟨b, o + t, none⟩) e2).trans e3⟩
  have S1 : Hid (∀ W, Below w2.heap.size w2 W → Calls Try.prog 18 #[.slice Av m cv, .slice Ax m cx] W fun e w' => ∃ v, e = .returned v ∧ Below W.heap.size W w' ∧ ttHolds (.inl (.bool true)) v w') := Lib.hid fun W hW =>
    (same_ints m hl (fun t => xs.getD t 0) Av Ax cv cx w2.heap.size W (HI2.out.below hW) (fun t ht => by
      obtain ⟨b, o, e1, e2, e3⟩ := HX.out t ht
      exact ⟨b, o, e1, Nat.lt_of_lt_of_le e2 HB02.out.size, ((HB02.out.trans (hW.mono HB02.out.size)).cell (p := ⟨b, o + t, none⟩) e2).trans e3⟩) hW.size).mono fun e W' ⟨h1, h2⟩ => ⟨_, h1, h2, rfl⟩
  have S2 : Hid (∀ W, Below w2.heap.size w2 W → Calls Try.prog 19 #[.slice Ar K cr, .slice Ay K cy] W fun e w' => ∃ v, e = .returned v ∧ Below W.heap.size W w' ∧ ttHolds (.inl (.bool true)) v w') := Lib.hid fun W hW =>
    (same_rowsN K hK1 f HF1.out Ar Ay cr cy w2.heap.size W (HR.out.below hW) ((HY.out.below (HB02.out.trans (hW.mono HB02.out.size))).more HB02.out.size) hW.size).mono fun e W' ⟨h1, h2⟩ => ⟨_, h1, h2, rfl⟩
  clear hxl
  go_wp2_with fail
  with_reducible refine (S1.out w2 (Below.refl _ _)).mono ?_
  rintro e w3 ⟨v, rfl, hb3, rfl⟩
  have HB3 := Lib.hid hb3
  have HB03 := Lib.hid (HB02.out.trans (hb3.mono HB02.out.size))
  clear hb3
  go_wp2_with fail
  with_reducible refine (S2.out w3 HB3.out).mono ?_
  rintro e w4 ⟨v, rfl, hb4, rfl⟩
  have HB04 := Lib.hid (HB03.out.trans (hb4.mono HB03.out.size))
  clear hb4
  go_wp2_with fail
  go_ret
  exact ⟨rfl, HB04.out⟩
end Go.Proofs.Ytaalinhkikmfaaa
end

section
set_option linter.unusedSimpArgs false
set_option linter.unusedVariables false
namespace Go.Proofs.Ytaalinhkikmfaaa
open Go.RowKit

theorem lit_rdE {w : World} {b : Nat} {cs : Array Value} {T : TypeId} {xs : List Value} (h : w.heap[b]? = some (.cells cs T (0, 0))) (hx : cs = xs.toArray) : Rd w w.heap.size (some ⟨b, 0, none⟩) xs := fun j u hu => by
  subst hx
  refine ⟨b, 0, rfl, lt_blk h, ?_⟩
  rw [cell_blk (T := T) h]
  simpa using hu
/-- all of it as literals in blocks of their own. -/
theorem form_at (l : List Ev) (m : Nat) (hm : m = l.length) (hl : m ≤ 1000) (xs : List Nat) (hx : leastX l = xs) (f : Nat → List Nat) (K : Nat) (hK : nlv l = K) (hf : ∀ k, k < K → lrow l 2 k = f k) (hf1 : ∀ k, k < K → (f k).length ≤ 1000) (hw : wrongE l 2 = 0) (W : World) (ge gx gm : Nat) (gr : Nat → Nat)
    (hE : W.heap[ge]? = some (.cells (evcells l).toArray 50 (0, 0))) (hX : W.heap[gx]? = some (.cells (icl xs).toArray 3 (0, 0))) (hM : W.heap[gm]? = some (.cells ((List.range K).map fun k => .slice (some ⟨gr k, 0, none⟩) (f k).length (f k).length).toArray 23 (0, 0))) (hR : ∀ k, k < K → W.heap[gr k]? = some (.cells (icl (f k)).toArray 3 (0, 0))) :
    Calls Try.prog 24 #[.slice (some ⟨ge, 0, none⟩) m m, .slice (some ⟨gx, 0, none⟩) m m, .slice (some ⟨gm, 0, none⟩) K K] W fun e w' => e = .returned (.bool true) ∧ Below W.heap.size W w' := by
  have hK1 : K ≤ 1000 := by rw [← hK]; have := nlvK_le l l.length; unfold nlv; omega
  have hxl : xs.length = m := by rw [← hx, leastX_len, hm]
  refine form_yes l m hm (by omega) _ m (Nat.le_refl _) xs hx f K hK (by omega) hf (fun k hk => by have := hf1 k hk; omega) hw _ _ m K W (Evs.of_rd (lit_rdE hE rfl)) ?_ fun i hi => ?_
  · have := ints_icl (lit_rdE hX rfl)
    rw [hxl] at this
    exact this
  · refine ⟨gm, 0, some ⟨gr i, 0, none⟩, (f i).length, rfl, lt_blk hM, ?_, ints_icl (lit_rdE (hR i hi) rfl)⟩
    rw [cell_blk hM]
    simp [hi]
def nA : List Ev := [⟨1, 0, 0⟩, ⟨0, 0, 0⟩]
def nB : List Ev := [⟨0, 0, 0⟩, ⟨1, 0, 0⟩]
def nC : List Ev := [⟨1, 2, 0⟩, ⟨0, 1, 0⟩, ⟨1, 0, 0⟩]
def nD : List Ev := [⟨1, 3, 0⟩, ⟨0, 2, 0⟩, ⟨1, 4, 0⟩]
theorem nA_f : wrongE nA 2 = 0 ∧ leastX nA = [1, 0] ∧ nlv nA = 1 ∧ lrow nA 2 0 = [1, 0] := by decide +kernel
theorem nC_f : wrongE nC 2 = 0 ∧ leastX nC = [0, 1, 2] ∧ nlv nC = 2 ∧ lrow nC 2 0 = [0] ∧ lrow nC 2 1 = [1, 2] := by decide +kernel
theorem nD_f : wrongE nD 2 = 0 ∧ leastX nD = [1, 0, 2] ∧ nlv nD = 2 ∧ lrow nD 2 0 = [1, 0] ∧ lrow nD 2 1 = [2] := by decide +kernel
theorem nAB_f : eqCode nA nB 2 = 0 ∧ eqAns nA nB 2 = true ∧ schedOk 2 [1, 0] = true ∧ schedOk 2 [0, 0] = false ∧ thrs nA [1, 0] = [0, 1] := by decide +kernel
theorem new_at15 {w : World} {o : Obj} {g : Nat} (h : g = w.heap.size) : (w.alloc o).heap[g]? = some o := by rw [h]; exact heap_alloc_new _ _
theorem form1 (l : List Ev) (m : Nat) (hm : m = l.length) (hl : m ≤ 1000) (xs r0 : List Nat) (hr : r0.length ≤ 1000) (hf : wrongE l 2 = 0 ∧ leastX l = xs ∧ nlv l = 1 ∧ lrow l 2 0 = r0) (W : World) (k : Nat) (hk : r0.length = k) :
    Calls Try.prog 24 #[.slice (some ⟨W.heap.size, 0, none⟩) m m, .slice (some ⟨W.heap.size + 1, 0, none⟩) m m, .slice (some ⟨W.heap.size + 1 + 1 + 1, 0, none⟩) 1 1] ((((W.alloc (.cells (evcells l).toArray 50)).alloc (.cells (icl xs).toArray 3)).alloc (.cells (icl r0).toArray 3)).alloc (.cells #[.slice (some ⟨W.heap.size + 1 + 1, 0, none⟩) k k] 23))
      fun e w' => e = .returned (.bool true) ∧ Below W.heap.size W w' := by
  obtain ⟨h1, h2, h3, h4⟩ := hf
  subst hk
  refine (form_at l m hm hl xs h2 (fun _ => r0) 1 h3 (fun k hk => by rw [show k = 0 by omega]; exact h4) (fun _ _ => hr) h1 _ W.heap.size (W.heap.size + 1) (W.heap.size + 1 + 1 + 1) (fun _ => W.heap.size + 1 + 1) (alloc_blk (alloc_blk (alloc_blk (new_at15 rfl) _) _) _) (alloc_blk (alloc_blk (new_at15 (by simp)) _) _) (new_at15 (by simp)) fun _ _ => alloc_blk (new_at15 (by simp)) _).mono ?_
  rintro e w' ⟨rfl, hb⟩
  exact ⟨rfl, ((((Below.refl W.heap.size W).alloc (Nat.le_refl _) _).alloc (by simp) _).alloc (by simp; omega) _ |>.alloc (by simp; omega) _).trans (hb.mono (by simp; omega))⟩
theorem form2 (l : List Ev) (m : Nat) (hm : m = l.length) (hl : m ≤ 1000) (xs r0 r1 : List Nat) (hr0 : r0.length ≤ 1000) (hr1 : r1.length ≤ 1000) (hf : wrongE l 2 = 0 ∧ leastX l = xs ∧ nlv l = 2 ∧ lrow l 2 0 = r0 ∧ lrow l 2 1 = r1) (W : World) (k k' : Nat) (hk : r0.length = k) (hk' : r1.length = k') :
    Calls Try.prog 24 #[.slice (some ⟨W.heap.size, 0, none⟩) m m, .slice (some ⟨W.heap.size + 1, 0, none⟩) m m, .slice (some ⟨W.heap.size + 1 + 1 + 1 + 1, 0, none⟩) 2 2] (((((W.alloc (.cells (evcells l).toArray 50)).alloc (.cells (icl xs).toArray 3)).alloc (.cells (icl r0).toArray 3)).alloc (.cells (icl r1).toArray 3)).alloc (.cells #[.slice (some ⟨W.heap.size + 1 + 1, 0, none⟩) k k, .slice (some ⟨W.heap.size + 1 + 1 + 1, 0, none⟩) k' k'] 23))
      fun e w' => e = .returned (.bool true) ∧ Below W.heap.size W w' := by
  obtain ⟨h1, h2, h3, h4, h5⟩ := hf
  subst hk hk'
  refine (form_at l m hm hl xs h2 (fun k => if k = 0 then r0 else r1) 2 h3 (fun k hk => by
      obtain rfl | rfl : k = 0 ∨ k = 1 := by omega
      · exact h4
      · exact h5) (fun k _ => by split <;> assumption) h1 _ W.heap.size (W.heap.size + 1) (W.heap.size + 1 + 1 + 1 + 1) (fun k => if k = 0 then W.heap.size + 1 + 1 else W.heap.size + 1 + 1 + 1) (alloc_blk (alloc_blk (alloc_blk (alloc_blk (new_at15 rfl) _) _) _) _) (alloc_blk (alloc_blk (alloc_blk (new_at15 (by simp)) _) _) _) (new_at15 (by simp)) fun k hk => ?_).mono ?_
  · obtain rfl | rfl : k = 0 ∨ k = 1 := by omega
    · exact alloc_blk (alloc_blk (new_at15 (by simp)) _) _
    · exact alloc_blk (new_at15 (by simp)) _
  · rintro e w' ⟨rfl, hb⟩
    exact ⟨rfl, (((((Below.refl W.heap.size W).alloc (Nat.le_refl _) _).alloc (by simp) _).alloc (by simp; omega) _).alloc (by simp; omega) _ |>.alloc (by simp; omega) _).trans (hb.mono (by simp; omega))⟩
set_option maxRecDepth 100000 in
set_option maxHeartbeats 4000000 in
theorem awake15 (w : World) : Calls Try.prog 23 #[] w fun e w' => e = .returned (.bool true) ∧ Below w.heap.size w w' := by
  have F1 := Lib.hid (form1 nA 2 rfl (by omega) [1, 0] [1, 0] (by simp) nA_f w 2 rfl)
  go_enter Try.func23, Try.ntmps23
  go_wp2_with fail
  refine F1.out.mono ?_
  rintro e w1 ⟨rfl, hb⟩
  have HB := Lib.hid hb
  clear hb
  go_wp2_with fail
  go_ret
  exact ⟨rfl, HB.out⟩
theorem zs_lit {w : World} {b : Nat} {cs : Array Value} {zs : List Int} (h : w.heap[b]? = some (.cells cs 3 (0, 0))) (hx : cs = (zcl zs).toArray) : Zs w w.heap.size (some ⟨b, 0, none⟩) zs := fun i hi => by
  subst hx
  refine ⟨b, 0, rfl, lt_blk h, ?_⟩
  rw [cell_blk h]
  simp [zcl, List.getD_eq_getElem?_getD, hi]
theorem ints_01 {w : World} {B : Nat} {A : Option Addr} {xs : List Value} (hx : xs = [.int .i64 0, .int .i64 1]) (h : Rd w B A xs) : Ints w B A 2 (fun t => [0, 1].getD t 0) := fun t ht => by
  subst hx
  obtain rfl | rfl : t = 0 ∨ t = 1 := by omega
  · exact h 0 _ rfl
  · exact h 1 _ rfl
set_option maxRecDepth 100000 in
set_option maxHeartbeats 4000000 in
theorem known15 (w : World) : Calls Try.prog 4 #[] w fun e w' => e = .returned (.bool true) ∧ Below w.heap.size w w' := by
  obtain ⟨f1, f2, f3, f4, f5⟩ := nAB_f
  have F1 := Lib.hid f1; have F2 := Lib.hid f2; have F3 := Lib.hid f3; have F4 := Lib.hid f4; have F5 := Lib.hid f5
  clear f1 f2 f3 f4 f5
  go_enter Try.func4, Try.ntmps4
  go_wp2_with fail
  have hE1 : ((w.alloc (.cells (evcells nA).toArray 50)).alloc (.cells (evcells nB).toArray 50)).heap[w.heap.size]? = some (.cells (evcells nA).toArray 50 (0, 0)) := alloc_blk (new_at15 rfl) _
  have hE2 : ((w.alloc (.cells (evcells nA).toArray 50)).alloc (.cells (evcells nB).toArray 50)).heap[w.heap.size + 1]? = some (.cells (evcells nB).toArray 50 (0, 0)) := new_at15 (by simp)
  have hb1 : Below w.heap.size w ((w.alloc (.cells (evcells nA).toArray 50)).alloc (.cells (evcells nB).toArray 50)) := ((Below.refl w.heap.size w).alloc (Nat.le_refl _) _).alloc (by simp) _
  obtain ⟨w1, hw1⟩ : ∃ w1, w1 = (w.alloc (.cells (evcells nA).toArray 50)).alloc (.cells (evcells nB).toArray 50) := ⟨_, rfl⟩
  rw [← hw1] at hE1 hE2 hb1
  have HQ := Lib.hid (equiv_any nA nB 2 2 rfl rfl (by omega) (by omega) 2 (some ⟨w.heap.size, 0, none⟩) (some ⟨w.heap.size + 1, 0, none⟩) 2 2 (Nat.le_refl _) (Nat.le_refl _) w1 (Evs.of_rd (lit_rdE hE1 rfl)) (Evs.of_rd (lit_rdE hE2 rfl)))
  rw [hw1] at HQ
  refine HQ.out.mono ?_
  rw [← hw1]
  rintro e w2 ⟨rfl, hb⟩
  rw [F1.out, F2.out]
  have HB2 := Lib.hid (hb1.trans (hb.mono hb1.size))
  have HE2 := Lib.hid ((hb.block _ (lt_blk hE1)).trans hE1)
  clear hE1 hE2 hb1 hw1 HQ hb
  obtain ⟨g0, hg0⟩ : ∃ g0, g0 = w.heap.size := ⟨_, rfl⟩
  rw [← hg0] at HE2 ⊢
  clear hg0
  have S1 := Lib.hid (schedule_any nA 2 rfl (by omega) (some ⟨g0, 0, none⟩) 2 [1, 0] 2 rfl (by omega) (some ⟨w2.heap.size, 0, none⟩) 2 (w2.alloc (.cells (zcl [1, 0]).toArray 3)).heap.size (w2.alloc (.cells (zcl [1, 0]).toArray 3)) (Evs.of_rd (lit_rdE (alloc_blk HE2.out _) rfl)) (zs_lit (new_at15 rfl) rfl) (Nat.le_refl _))
  go_wp2_with fail
  refine S1.out.mono ?_
  rintro e w3 ⟨hb3, ⟨h1, _⟩ | ⟨_, v, rfl, ho, _⟩⟩
  · rw [F3.out] at h1; cases h1
  rw [F5.out] at ho
  obtain ⟨Av, cv, rfl, hrv, _, _⟩ := own_rd ho
  have HB23 := Lib.hid ((below_alloc w2 (.cells (zcl [1, 0]).toArray 3)).trans (hb3.mono (below_alloc _ _).size))
  have HB3 := Lib.hid (HB2.out.trans (HB23.out.mono HB2.out.size))
  have HE3 := Lib.hid ((HB23.out.block _ (lt_blk HE2.out)).trans HE2.out)
  have HV := Lib.hid (ints_01 rfl hrv)
  clear hb3 ho hrv S1
  have S2 := Lib.hid (schedule_any nA 2 rfl (by omega) (some ⟨g0, 0, none⟩) 2 [0, 0] 2 rfl (by omega) (some ⟨w3.heap.size, 0, none⟩) 2 (w3.alloc (.cells (zcl [0, 0]).toArray 3)).heap.size (w3.alloc (.cells (zcl [0, 0]).toArray 3)) (Evs.of_rd (lit_rdE (alloc_blk HE3.out _) rfl)) (zs_lit (new_at15 rfl) rfl) (Nat.le_refl _))
  simp only [List.length_cons, List.length_nil]
  go_wp2_with fail
  refine S2.out.mono ?_
  rintro e w4 ⟨hb4, ⟨_, rfl⟩ | ⟨h1, _⟩⟩
  rotate_left
  · rw [F4.out] at h1; cases h1
  have HB34 := Lib.hid ((below_alloc w3 (.cells (zcl [0, 0]).toArray 3)).trans (hb4.mono (below_alloc _ _).size))
  have HB4 := Lib.hid (HB3.out.trans (HB34.out.mono HB3.out.size))
  have HV4 := Lib.hid (HV.out.below HB34.out)
  have HZ4 := Lib.hid HB34.out.size
  clear hb4 S2
  go_wp2_with fail
  refine (awake15 w4).mono ?_
  rintro e w5 ⟨rfl, hb5⟩
  have HB5 := Lib.hid (HB4.out.trans (hb5.mono HB4.out.size))
  have HX5 := Lib.hid hb5
  clear hb5
  have F6 := Lib.hid (form2 nC 3 rfl (by omega) [0, 1, 2] [0] [1, 2] (by simp) (by simp) nC_f w5 1 2 rfl rfl)
  go_wp2_with fail
  refine F6.out.mono ?_
  rintro e w6 ⟨rfl, hb6⟩
  have HB6 := Lib.hid (HB5.out.trans (hb6.mono HB5.out.size))
  have HX6 := Lib.hid (HX5.out.trans (hb6.mono HX5.out.size))
  clear hb6 F6
  have F7 := Lib.hid (form2 nD 3 rfl (by omega) [1, 0, 2] [1, 0] [2] (by simp) (by simp) nD_f w6 2 1 rfl rfl)
  go_wp2_with fail
  refine F7.out.mono ?_
  rintro e w7 ⟨rfl, hb7⟩
  have HB7 := Lib.hid (HB6.out.trans (hb7.mono HB6.out.size))
  have HX7 := Lib.hid (HX6.out.trans (hb7.mono HX6.out.size))
  clear hb7 F7
  have S3 := Lib.hid (same_ints 2 (by omega) (fun t => [0, 1].getD t 0) Av (some ⟨w7.heap.size, 0, none⟩) cv 2 (w7.alloc (.cells #[.int .i64 0, .int .i64 1] 3)).heap.size (w7.alloc (.cells #[.int .i64 0, .int .i64 1] 3)) (fun t ht => by
    obtain ⟨b, o, e1, e2, e3⟩ := (HV4.out.below (HX7.out.mono HZ4.out)) t ht
    have h1 := HX7.out.size
    have h2 := HZ4.out
    exact ⟨b, o, e1, by simp; omega, ((below_alloc w7 _).cell (p := ⟨b, o + t, none⟩) (by show b < _; omega)).trans e3⟩) (ints_01 rfl (lit_rdE (new_at15 rfl) rfl)) (Nat.le_refl _))
  go_wp2_with fail
  refine S3.out.mono ?_
  rintro e w8 ⟨rfl, hb8⟩
  have HB8 := Lib.hid (HB7.out.trans (((below_alloc w7 (.cells #[.int .i64 0, .int .i64 1] 3)).trans (hb8.mono (below_alloc _ _).size)).mono HB7.out.size))
  clear hb8
  go_wp2_with fail
  go_ret
  exact ⟨rfl, HB8.out⟩
end Go.Proofs.Ytaalinhkikmfaaa
end
