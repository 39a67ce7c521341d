/- several texts in one: the reference's Least., the reference's Equivalent and Schedule., lists of numbers: compared, lent, kept, written over; heavy., the reference's Levels., NormTells: what the functions answer, in one form each., NormTells: its walk (printed by gen_tells.py). -/
import Derived.Test.YtaalinhkikmfaaaEj
import Derived.Test.YtaalinhkikmfaaaMg11
import Derived.Test.YtaalinhkikmfaaaEd
import Derived.Test.YtaalinhkikmfaaaEk
import Derived.Test.YtaalinhkikmfaaaMg12
import Derived.Test.YtaalinhkikmfaaaMg6
import Derived.Test.YtaalinhkikmfaaaCr
import Derived.Test.YtaalinhkikmfaaaMg7
import Derived.Test.YtaalinhkikmfaaaMg8
section
set_option linter.unusedSimpArgs false
set_option linter.unusedVariables false
namespace Go.Proofs.Ytaalinhkikmfaaa
open Go.RowKit

/-- block g is a row of m flags; all ahead of it is as it was. -/
structure FlagR (w0 wr : World) (g m : Nat) (S : Nat → Bool) : Prop where
  at_ : g = w0.heap.size
  bel : Below g w0 wr
  row : ∃ cur : Array Value, wr.heap[g]? = some (.cells cur 4 (0, 0)) ∧ cur.size = m ∧ ∀ t, t < m → cur[t]? = some (.bool (S t))
theorem FlagR.made (w : World) (m : Nat) : FlagR w (w.alloc (.cells (Array.replicate m (.bool false)) 4)) w.heap.size m (fun _ => false) :=
  ⟨rfl, below_alloc _ _, _, heap_alloc_new _ _, by simp, fun t ht => by simp [ht]⟩
theorem FlagR.ext {w0 wr w' : World} {g m : Nat} {S : Nat → Bool} (h : FlagR w0 wr g m S) (hb : Below (g + 1) wr w') : FlagR w0 w' g m S := by
  obtain ⟨cur, h1, h2⟩ := h.row
  exact ⟨h.at_, h.bel.trans (hb.mono (by omega)), cur, (hb.block g (by omega)).trans h1, h2⟩
theorem FlagR.lt {w0 wr : World} {g m : Nat} {S : Nat → Bool} (h : FlagR w0 wr g m S) : g + 1 ≤ wr.heap.size := by
  obtain ⟨cur, h1, _⟩ := h.row
  exact lt_blk h1
theorem FlagR.below {w0 wr w' : World} {g m : Nat} {S : Nat → Bool} (h : FlagR w0 wr g m S) (hb : Below wr.heap.size wr w') : FlagR w0 w' g m S := h.ext (hb.mono h.lt)
theorem FlagR.congr {w0 wr : World} {g m : Nat} {S S' : Nat → Bool} (h : FlagR w0 wr g m S) (hS : ∀ t, t < m → S t = S' t) : FlagR w0 wr g m S' := by
  obtain ⟨cur, h1, h2, h3⟩ := h.row
  exact ⟨h.at_, h.bel, cur, h1, h2, fun t ht => by rw [← hS t ht]; exact h3 t ht⟩
theorem FlagR.cell {w0 wr : World} {g m t : Nat} {S : Nat → Bool} (h : FlagR w0 wr g m S) (ht : t < m) : wr.cell? ⟨g, t, none⟩ = some (.bool (S t)) ∧ wr.frozen? ⟨g, t, none⟩ = false := by
  obtain ⟨cur, h1, h2, h3⟩ := h.row
  exact ⟨by rw [cell_blk h1]; exact h3 t ht, free_blk h1 _⟩
theorem FlagR.write {w0 wr : World} {g m t : Nat} {S : Nat → Bool} (z : Bool) (h : FlagR w0 wr g m S) (ht : t < m) : FlagR w0 (wr.setCell ⟨g, t, none⟩ (.bool z)) g m (fun s => if s = t then z else S s) ∧ wr.grownBy (wr.setCell ⟨g, t, none⟩ (.bool z)) (some g) := by
  obtain ⟨cur, h1, h2, h3⟩ := h.row
  have hg : wr.grownBy (wr.setCell ⟨g, t, none⟩ (.bool z)) (some g) := grown_setCell (World.grownBy.refl _ _) rfl _
  refine ⟨⟨h.at_, h.bel.grown hg (Nat.le_of_lt (lt_blk h1)) (by intro k e; injection e with e; omega), _, set_blk h1 _ _, by simp [h2], fun s hs => ?_⟩, hg⟩
  have hlt : s < cur.size := by omega
  by_cases e : s = t
  · subst e
    rw [Array.getElem?_setIfInBounds_self_of_lt hlt, if_pos rfl]
  · rw [Array.getElem?_setIfInBounds_ne (by omega), if_neg e]; exact h3 s hs
theorem FlagR.own {w0 wr w' : World} {g m n : Nat} {S : Nat → Bool} {v : Value} {xs : List Value} (h : FlagR w0 wr g m S) (ho : wr.ownsRow (g + 1) 3 1 v n xs) (hb : wr.grownBy w' (some g)) : w'.ownsRow (g + 1) 3 1 v n xs := by
  obtain ⟨cur, h1, _⟩ := h.row
  exact own_kept_g ho h1 (by decide) hb
def bI : Option Nat → Int
  | none => -1
  | some b => (b : Nat)
def rdyI (l : List Ev) (o : List Nat) (j i : Nat) : Bool := decide (j ∉ o) && (List.range i).all fun i => decide (i ∈ o) || !hb l i j
theorem rdyI_zero (l : List Ev) (o : List Nat) (j : Nat) : rdyI l o j 0 = !decide (j ∈ o) := by simp [rdyI]
theorem rdyI_succ (l : List Ev) (o : List Nat) (j i : Nat) : rdyI l o j (i + 1) = (rdyI l o j i && (decide (i ∈ o) || !hb l i j)) := by
  unfold rdyI
  rw [List.range_succ, List.all_append, Bool.and_assoc]
  simp
theorem rdyI_full (l : List Ev) (o : List Nat) (j : Nat) : rdyI l o j j = rdyB l o j := rfl
theorem bestK_no {l : List Ev} {o : List Nat} {k : Nat} (h : rdyB l o k = false) : bestK l o (k + 1) = bestK l o k := by
  rw [bestK, h]
  simp
theorem bestK_one {l : List Ev} {o : List Nat} {k : Nat} (h : rdyB l o k = true) (hn : bestK l o k = none) : bestK l o (k + 1) = some k := by
  rw [bestK, h, hn]
  simp
theorem bestK_lt {l : List Ev} {o : List Nat} {k b : Nat} (h : rdyB l o k = true) (hn : bestK l o k = some b) : bestK l o (k + 1) = if (ev l k).t < (ev l b).t then some k else some b := by
  rw [bestK, h, hn]
  simp
def RLeastP (l : List Ev) (n : Int) (w : World) (r : Ending) (w' : World) : Prop :=
  Below w.heap.size w w' ∧ ((wrongE l n ≠ 0 ∧ r = .returned (.tuple #[.slice none 0 0, .int .i64 (wrongE l n : Nat)])) ∨
    (wrongE l n = 0 ∧ ∃ v, r = .returned (.tuple #[v, .int .i64 0]) ∧ w'.ownsRow w.heap.size 3 1 v l.length (icl (leastX l))))
set_option maxRecDepth 100000 in
set_option maxHeartbeats 8000000 in
theorem refleast_any (l : List Ev) (m : Nat) (hm : m = l.length) (hl : m ≤ 4611686018427387904) (n : Int) (A : Option Addr) (cap : Nat) (w : World) (hA : Evs w w.heap.size A l) :
    Calls Try.prog 11 #[.slice A m cap, .int .i64 n] w (RLeastP l n w) := by
  have HW := Lib.hid (refwrong_any l m hm hl n A cap w.heap.size w hA (Nat.le_refl _))
  have HA := Lib.hid hA; have HM := Lib.hid hm
  clear hA hm
  go_enter Try.func11, Try.ntmps11
  go_wp2_with fail
  with_reducible refine HW.out.mono ?_
  rintro e w1 ⟨rfl, hb1⟩
  have HB1 := Lib.hid hb1
  have HA1 := Lib.hid ((HA.out.below hb1).more hb1.size)
  clear hb1 HW
  by_cases hw : wrongE l n = 0
  rotate_left
  · have HWE := Lib.hid hw
    have d1 : (((wrongE l n : Nat) : Int) != 0) = true := by rw [bne_iff_ne]; omega
    obtain ⟨we, hwe⟩ : ∃ we, we = wrongE l n := ⟨_, rfl⟩
    rw [← hwe] at d1 ⊢
    have HE := Lib.hid hwe
    clear hw hwe
    go_wp2_with fail
    go_ret2
    exact ⟨HB1.out, .inl ⟨HWE.out, by rw [← HE.out]; rfl⟩⟩
  have HWE := Lib.hid hw
  have hm1 : m ≤ 1024 := by have := (wrong_ok hw).2.2.1; have := HM.out; omega
  rw [hw]
  clear hw
  have HH := Lib.hid (heads_any l m HM.out (by omega) A cap w1 HA1.out)
  go_wp2_with fail
  with_reducible refine HH.out.mono ?_
  rintro e w2 ⟨v2, γ, rfl, hmat, hb2⟩
  have HB2 := Lib.hid (HB1.out.trans (hb2.mono HB1.out.size))
  have HA2 := Lib.hid ((HA1.out.below hb2).more hb2.size)
  rw [show (fun j k => rc (fun a b => dpd (ev l a) (ev l b)) k j) = fun j k => hb l k j from funext fun j => funext fun k => (hb_rc l k j).symm] at hmat
  have HMT := Lib.hid hmat
  obtain ⟨Ah, ch, rfl, _⟩ := own_rd hmat.1
  have hmk := fun W => run_make_el EB m m (by simp) (by omega) (by omega) W
  clear hb2 hmat HH HA1
  go_wp2_with fail
  have HF0 := Lib.hid (FlagR.made w2 m)
  obtain ⟨g, hg⟩ : ∃ g, g = w2.heap.size := ⟨_, rfl⟩
  have HG := Lib.hid hg
  rw [← hg] at HF0 ⊢
  obtain ⟨w3, hw3⟩ : ∃ w3, w3 = w2.alloc (.cells (Array.replicate m (.bool false)) 4) := ⟨_, rfl⟩
  rw [← hw3] at HF0 ⊢
  clear hg hw3 hmk
  have HB3 : Hid (Below w.heap.size w w3) := Lib.hid (HB2.out.trans (HF0.out.bel.mono (by rw [HG.out]; exact HB2.out.size)))
  go_wp2_with fail
  go_loopw [9] (fun ov wr => ∃ (o : List Nat) (k : Nat), k = o.length ∧ k ≤ m ∧ Gr l o ∧ wr.ownsRow (g + 1) 3 1 ov k (icl o) ∧ FlagR w2 wr g m (fun t => decide (t ∈ o))) (fun ov _ => m - slen ov)
  case atStart => exact ⟨[], 0, rfl, by omega, .nil, World.ownsRow_nil _ _ _ _, HF0.out.congr fun t _ => by simp⟩
  case round =>
    obtain ⟨o, k, hk, hkm, hgr, ho, hf⟩ := hrel
    have HGR := Lib.hid hgr; have HO := Lib.hid ho; have HF := Lib.hid hf; have HK := Lib.hid hk
    obtain ⟨A9, c9, rfl, hr9, _⟩ := own_rd ho
    clear hk hgr ho hf hr9
    by_cases hlt : k < m
    · obtain ⟨wo, hwo⟩ : ∃ x, x = wr := ⟨_, rfl⟩
      subst hwo
      go_wp2_with fail
      go_loopw [10, 11] (fun bv jv wq => ∃ j : Nat, j ≤ m ∧ jv = .int .i64 (j : Nat) ∧ bv = .int .i64 (bI (bestK l o j)) ∧ Below wo.heap.size wo wq) (fun _ jv _ => m - (intOf jv).toNat)
      case atStart => exact ⟨0, by omega, by go_num, by simp [bestK, bI], Below.refl _ _⟩
      case round =>
        obtain ⟨j, hj, rfl, rfl, hb⟩ := hrel
        have HB := Lib.hid hb
        have HFj := Lib.hid (HF.out.below hb)
        clear hb
        by_cases hjm : j < m
        · obtain ⟨c1, f1⟩ := HFj.out.cell hjm
          have HR0 := Lib.hid (rdyI_zero l o j)
          go_wp2_with fail
          go_loopw [12, 13] (fun mv iv wz => ∃ i : Nat, i ≤ j ∧ iv = .int .i64 (i : Nat) ∧ mv = .bool (rdyI l o j i) ∧ Below wo.heap.size wo wz) (fun _ iv _ => j - (intOf iv).toNat)
          case atStart => exact ⟨0, by omega, by go_num, by rw [HR0.out], HB.out⟩
          case round =>
            clear HB HFj c1 f1 HR0
            obtain ⟨i, hi, rfl, rfl, hb⟩ := hrel
            have HB := Lib.hid hb
            have HFj := Lib.hid (HF.out.below hb)
            clear hb
            by_cases hij : i < j
            · have him : i < m := by omega
              have HRS := Lib.hid (rdyI_succ l o j i)
              obtain ⟨c1, f1⟩ := HFj.out.cell him
              obtain ⟨bh, fh, chh, e, c2, c3⟩ := (HMT.out.ext (HFj.out.bel.mono (by rw [HG.out]; exact Nat.le_refl _))).row hjm
              injection e with e1 _ e2
              subst e1 e2
              have c4 : wr.cell? ⟨γ j, i, none⟩ = some (.bool (hb l i j)) := c3 i hij
              clear c3
              cases hr : rdyI l o j i
              · rw [hr, Bool.false_and] at HRS
                clear hr
                go_wp2_with fail
                go_roundw
                case rel => exact ⟨i + 1, by omega, by go_num, by rw [HRS.out], HB.out⟩
                case measure => simp [intOf]; omega
              · rw [hr, Bool.true_and] at HRS
                clear hr
                cases hin : decide (i ∈ o)
                · rw [hin] at c1
                  rw [hin, Bool.false_or] at HRS
                  clear hin
                  generalize hb l i j = d at *
                  go_wp2_with fail
                  go_roundw
                  case rel => exact ⟨i + 1, by omega, by go_num, by rw [HRS.out], HB.out⟩
                  case measure => simp [intOf]; omega
                · rw [hin] at c1
                  rw [hin, Bool.true_or] at HRS
                  clear hin
                  go_wp2_with fail
                  go_roundw
                  case rel => exact ⟨i + 1, by omega, by go_num, by rw [HRS.out], HB.out⟩
                  case measure => simp [intOf]; omega
            · obtain rfl : i = j := by omega
              have HRF := Lib.hid (rdyI_full l o i)
              rw [HRF.out]
              obtain ⟨b, f, rfl, hb0, e1, _, _⟩ := HA2.out i (by rw [← HM.out]; exact hjm)
              have hwb : b < g := by rw [HG.out]; exact hb0
              have ct := (HFj.out.bel.cell (p := ⟨b, f + i * 3, none⟩) hwb).trans e1
              clear e1 hb0
              cases hr : rdyB l o i
              · have HBN := Lib.hid (bestK_no hr)
                clear hr
                go_wp2_with fail
                go_region
                go_wp2_with fail
                go_roundw
                case rel => exact ⟨i + 1, by omega, by go_num, by rw [HBN.out], HB.out.drew⟩
                case measure => simp [intOf]; omega
              · cases hbk : bestK l o i
                · have HBN := Lib.hid (bestK_one hr hbk)
                  clear hr hbk
                  simp only [bI]
                  go_wp2_with fail
                  go_region
                  go_wp2_with fail
                  go_roundw
                  case rel => exact ⟨i + 1, by omega, by go_num, by rw [HBN.out]; rfl, HB.out.drew⟩
                  case measure => simp [intOf]; omega
                · rename_i z
                  have HBN := Lib.hid (bestK_lt hr hbk)
                  have hzi : z < i := by
                    rcases bestK_spec l o i with ⟨h, _⟩ | ⟨z', h1, h2, _⟩
                    · rw [h] at hbk; cases hbk
                    · rw [h1] at hbk; injection hbk with hbk; omega
                  have HBZ := Lib.hid hbk
                  clear hr hbk
                  obtain ⟨_, _, e, hb0, e1, _, _⟩ := HA2.out z (by rw [← HM.out]; omega)
                  injection e with e; injection e with e2 e3; subst e2 e3
                  have cz := (HFj.out.bel.cell (p := ⟨b, f + z * 3, none⟩) hwb).trans e1
                  clear e1 hb0
                  generalize (ev l i).t = x at *
                  generalize (ev l z).t = y at *
                  simp only [bI]
                  have g1 : (0 : Int) ≤ z := by omega
                  have g2 : (z : Int) < m := by omega
                  have g3 : (0 : Int) ≤ i := by omega
                  have g4 : (i : Int) < m := by omega
                  have g5 : ¬ (z : Int) < 0 := by omega
                  have TC : Hid (∀ W, Below wr.heap.size wr W → W.cell? ⟨b, f + i * 3, none⟩ = some (.int .i64 x) ∧ W.cell? ⟨b, f + z * 3, none⟩ = some (.int .i64 y)) := Lib.hid (fun W hW => by
                    have := HFj.out.lt
                    exact ⟨(hW.cell (p := ⟨b, f + i * 3, none⟩) (show b < _ by omega)).trans ct, (hW.cell (p := ⟨b, f + z * 3, none⟩) (show b < _ by omega)).trans cz⟩)
                  clear ct cz
                  by_cases hxy : x < y
                  · rw [if_pos hxy] at HBN
                    go_upto_region 17 with (fail)
                    apply wp_region_relH (H := []) 18 [(Sum.inl _ : TT), (Sum.inl _ : TT), (Sum.inl _ : TT), (Sum.inl _ : TT), (Sum.inl _ : TT), (Sum.inl _ : TT), (Sum.inl _ : TT), (Sum.inl _ : TT), (Sum.inl _ : TT), (Sum.inl _ : TT), (Sum.inl _ : TT), (Sum.inl _ : TT), (Sum.inl _ : TT), (Sum.inl _ : TT), (Sum.inl _ : TT), (Sum.inl _ : TT), (Sum.inl _ : TT), (Sum.inl _ : TT)] (by kernel_rfl) (by kernel_rfl) (fun _ _ _ _ _ h => h) rfl
                    simp only [List.take_succ_cons, List.take_zero, List.drop_succ_cons, List.drop_zero]
                    iterate 18 (apply rel_isS; (intro W hW hf; obtain ⟨z1, z2⟩ := TC.out W hW; go_simp; first | exact ⟨StayS.refl _ _, rfl⟩ | rfl); simp only [Act.put, List.setIfInBounds_toArray, List.set_cons_succ, List.set_cons_zero])
                    refine rel_endS ?_
                    intro W hW hf
                    try simp only [Act.put, List.setIfInBounds_toArray, List.set_cons_succ, List.set_cons_zero]
                    have HW := Lib.hid (HB.out.trans (hW.mono HB.out.size))
                    clear hW hf
                    go_wp2_with fail
                    go_roundw
                    case rel => exact ⟨i + 1, by omega, by go_num, by rw [HBN.out]; rfl, HW.out⟩
                    case measure => simp [intOf]; omega
                  · rw [if_neg hxy] at HBN
                    go_upto_region 17 with (fail)
                    apply wp_region_relH (H := []) 18 [(Sum.inl _ : TT), (Sum.inl _ : TT), (Sum.inl _ : TT), (Sum.inl _ : TT), (Sum.inl _ : TT), (Sum.inl _ : TT), (Sum.inl _ : TT), (Sum.inl _ : TT), (Sum.inl _ : TT), (Sum.inl _ : TT), (Sum.inl _ : TT), (Sum.inl _ : TT), (Sum.inl _ : TT), (Sum.inl _ : TT), (Sum.inl _ : TT), (Sum.inl _ : TT), (Sum.inl _ : TT), (Sum.inl _ : TT)] (by kernel_rfl) (by kernel_rfl) (fun _ _ _ _ _ h => h) rfl
                    simp only [List.take_succ_cons, List.take_zero, List.drop_succ_cons, List.drop_zero]
                    iterate 18 (apply rel_isS; (intro W hW hf; obtain ⟨z1, z2⟩ := TC.out W hW; go_simp; first | exact ⟨StayS.refl _ _, rfl⟩ | rfl); simp only [Act.put, List.setIfInBounds_toArray, List.set_cons_succ, List.set_cons_zero])
                    refine rel_endS ?_
                    intro W hW hf
                    try simp only [Act.put, List.setIfInBounds_toArray, List.set_cons_succ, List.set_cons_zero]
                    have HW := Lib.hid (HB.out.trans (hW.mono HB.out.size))
                    clear hW hf
                    go_wp2_with fail
                    go_roundw
                    case rel => exact ⟨i + 1, by omega, by go_num, by rw [HBN.out]; rfl, HW.out⟩
                    case measure => simp [intOf]; omega
        · obtain rfl : j = m := by omega
          have hbest := best_gr HGR.out (by rw [← HK.out, ← HM.out]; exact hlt)
          rw [← HM.out] at hbest
          obtain ⟨z, hz, hzm, hgz⟩ := hbest
          have HGZ := Lib.hid hgz
          rw [hz]
          simp only [bI]
          obtain ⟨c1, f1⟩ := HFj.out.cell hzm
          obtain ⟨hfw, hgw⟩ := HFj.out.write true hzm
          have HFW := Lib.hid hfw; have HGW := Lib.hid hgw
          have HO2 := Lib.hid (HFj.out.own (own_below HO.out HB.out) hgw)
          have g1 : (0 : Int) ≤ z := by omega
          have g2 : (z : Int) < j := by omega
          clear hz hgz hfw hgw
          go_upto_region 20 with (fail)
          obtain ⟨w5, hw5⟩ : ∃ w5, w5 = wr.setCell ⟨g, z, none⟩ (.bool true) := ⟨_, rfl⟩
          rw [← hw5] at HFW HO2 ⊢
          clear hw5 HGW
          go_wp2_with (at_builtin; refine wpList_append_one0 EI rfl (.tmp 85) (.tmp 87) rfl (g + 1) (.int .i64 (z : Nat)) rfl _ k (icl o) rfl HO2.out rfl (by omega) (by omega) _ HFW.out.lt (Below.refl _ _) ?_; intro v6 w6 h2 h3 h4 h5; clear h4 h5; obtain ⟨A8, c8, rfl, _⟩ := own_rd h2; have O6 := Lib.hid h2; have HF6 := Lib.hid (HFW.out.ext h3); clear h2 h3)
          go_roundw
          case rel => exact ⟨o ++ [z], k + 1, by rw [List.length_append, ← HK.out]; rfl, by omega, HGZ.out, by rw [icl_snoc]; exact O6.out, HF6.out.congr fun t _ => by by_cases e : t = z <;> simp [e]⟩
          case measure => simp [slen]; omega
    · obtain rfl : k = m := by omega
      have HX : Hid (o = leastX l) := Lib.hid (leastX_eq HGR.out (by rw [← HK.out, HM.out]))
      have hbw : Below w.heap.size w wr := HB2.out.trans (HF.out.bel.mono (by rw [HG.out]; exact HB2.out.size))
      have HBW := Lib.hid hbw
      clear hbw
      go_wp2_with fail
      go_ret2
      exact ⟨HBW.out, .inr ⟨HWE.out, _, rfl, by rw [← HM.out, ← HX.out]; exact own_lowI HO.out (by have := HG.out; have := HB2.out.size; omega)⟩⟩
end Go.Proofs.Ytaalinhkikmfaaa
end

section
set_option linter.unusedSimpArgs false
set_option linter.unusedVariables false
namespace Go.Proofs.Ytaalinhkikmfaaa
open Go.RowKit

set_option maxRecDepth 100000 in
set_option maxHeartbeats 4000000 in
theorem refequiv_any (la lb : List Ev) (p q : Nat) (hp : p = la.length) (hq : q = lb.length) (hpl : p ≤ 4611686018427387904) (hql : q ≤ 4611686018427387904) (n : Int) (A A' : Option Addr) (c c' : Nat) (hpc : p ≤ c) (hqc : q ≤ c') (w : World) (hA : Evs w w.heap.size A la) (hA' : Evs w w.heap.size A' lb) :
    Calls Try.prog 15 #[.slice A p c, .slice A' q c', .int .i64 n] w fun e w' => e = .returned (.tuple #[.bool (eqAns la lb n), .int .i64 (eqCode la lb n : Nat)]) ∧ Below w.heap.size w w' := by
  have HA := Lib.hid hA; have HA' := Lib.hid hA'; have HP := Lib.hid hp; have HQ := Lib.hid hq
  have HL1 := Lib.hid (refleast_any la p hp hpl n A c w hA)
  clear hA hA' hp hq
  go_enter Try.func15, Try.ntmps15
  go_wp2_with fail
  with_reducible refine HL1.out.mono ?_
  rintro e w1 ⟨b1, hc⟩
  have B1 := Lib.hid b1
  clear b1 HL1
  rcases hc with ⟨hw, rfl⟩ | ⟨hw, v1, rfl, o1⟩
  · have hn0 : ((wrongE la n : Nat) : Int) ≠ 0 := by omega
    have d0 : (((wrongE la n : Nat) : Int) != 0) = true := by rw [bne_iff_ne]; exact hn0
    have HC : Hid (eqCode la lb n = wrongE la n ∧ eqAns la lb n = false) := Lib.hid (by
      have : eqCode la lb n = wrongE la n := by unfold eqCode; rw [if_pos hw]
      refine ⟨this, ?_⟩
      unfold eqAns
      rw [this, decide_eq_false hw]; rfl)
    generalize wrongE la n = x at *
    clear hw hn0
    go_wp2_with fail
    go_ret2
    exact ⟨by rw [HC.out.1, HC.out.2]; rfl, B1.out⟩
  · have HW1 := Lib.hid hw
    rw [← HP.out] at o1
    obtain ⟨A1, c1, rfl, r1, _, _⟩ := own_rd o1
    have R1 := Lib.hid r1
    have hp10 : p ≤ 1024 := by rw [HP.out]; exact (wrong_ok hw).2.2.1
    have HL2 := Lib.hid (refleast_any lb q HQ.out hql n A' c' w1 ((HA'.out.below B1.out).more B1.out.size))
    clear o1 r1 hw
    go_wp2_with fail
    with_reducible refine HL2.out.mono ?_
    rintro e w2 ⟨b2, hc⟩
    have B2 := Lib.hid b2
    have B02 := Lib.hid (B1.out.trans (b2.mono B1.out.size))
    clear b2 HL2
    rcases hc with ⟨hw, rfl⟩ | ⟨hw, v2, rfl, o2⟩
    · have hn0 : ((wrongE lb n : Nat) : Int) ≠ 0 := by omega
      have d0 : (((wrongE lb n : Nat) : Int) != 0) = true := by rw [bne_iff_ne]; exact hn0
      have HC : Hid (eqCode la lb n = wrongE lb n ∧ eqAns la lb n = false) := Lib.hid (by
        have : eqCode la lb n = wrongE lb n := by unfold eqCode; rw [if_neg (fun h => h HW1.out)]
        refine ⟨this, ?_⟩
        unfold eqAns
        rw [this, decide_eq_false hw]; rfl)
      generalize wrongE lb n = x at *
      clear hw hn0
      go_wp2_with fail
      go_ret2
      exact ⟨by rw [HC.out.1, HC.out.2]; rfl, B02.out⟩
    · have HC : Hid (eqCode la lb n = 0 ∧ eqAns la lb n = decide (leastE la = leastE lb)) := Lib.hid (by
        have : eqCode la lb n = 0 := by unfold eqCode; rw [if_neg (fun h => h HW1.out), hw]
        refine ⟨this, ?_⟩
        unfold eqAns
        rw [this]; rfl)
      rw [← HQ.out] at o2
      obtain ⟨A2, c2, rfl, r2, _, _⟩ := own_rd o2
      have R2 := Lib.hid r2
      have hq10 : q ≤ 1024 := by rw [HQ.out]; exact (wrong_ok hw).2.2.1
      have HT1 := Lib.hid (refat_any la p HP.out (by omega) A c (leastX la) p (by rw [leastX_len, HP.out]) (by omega) A1 c1 w2.heap.size w2 ((HA.out.below B02.out).more B02.out.size) ((R1.out.below B2.out).more B2.out.size) (Nat.le_refl _) (fun x hx => by rw [HP.out]; exact leastX_lt la x hx))
      clear o2 r2 hw
      go_wp2_with fail
      with_reducible refine HT1.out.mono ?_
      rintro e w3 ⟨v3, rfl, o3, b3⟩
      have O3 := Lib.hid o3; have B3 := Lib.hid b3
      have B03 := Lib.hid (B02.out.trans (b3.mono B02.out.size))
      obtain ⟨A3, c3, rfl, r3, _, _⟩ := own_rdS o3
      have HT2 := Lib.hid (refat_any lb q HQ.out (by omega) A' c' (leastX lb) q (by rw [leastX_len, HQ.out]) (by omega) A2 c2 w3.heap.size w3 ((HA'.out.below B03.out).more B03.out.size) ((R2.out.below b3).more b3.size) (Nat.le_refl _) (fun x hx => by rw [HQ.out]; exact leastX_lt lb x hx))
      have R3 := Lib.hid r3
      clear o3 b3 HT1 r3
      go_wp2_with fail
      with_reducible refine HT2.out.mono ?_
      rintro e w4 ⟨v4, rfl, o4, b4⟩
      have B04 := Lib.hid (B03.out.trans (b4.mono B03.out.size))
      obtain ⟨A4, c4, rfl, r4, _, _⟩ := own_rdS o4
      have HE := Lib.hid (same_evs (leastE la) (leastE lb) p q (by unfold leastE; rw [List.length_map, leastX_len, HP.out]) (by unfold leastE; rw [List.length_map, leastX_len, HQ.out]) (by omega) (by omega) A3 A4 c3 c4 w4.heap.size w4 (.of_rd ((R3.out.below b4).more b4.size)) (.of_rd r4) (Nat.le_refl _))
      clear o4 b4 r4 HT2
      go_wp2_with fail
      with_reducible refine HE.out.mono ?_
      rintro e w5 ⟨rfl, b5⟩
      have B05 := Lib.hid (B04.out.trans (b5.mono B04.out.size))
      clear b5 HE
      go_wp2_with fail
      go_ret2
      exact ⟨by rw [HC.out.1, HC.out.2]; rfl, B05.out⟩
def RSchedP (l : List Ev) (m : Nat) (zs : List Int) (w : World) (e : Ending) (w' : World) : Prop := Below w.heap.size w w' ∧
  ((schedOk m zs = false ∧ e = .returned (.tuple #[.slice none 0 0, .int .i64 2])) ∨
   (schedOk m zs = true ∧ ∃ v, e = .returned (.tuple #[v, .int .i64 0]) ∧ w'.ownsRow w.heap.size 3 1 v zs.length (zcl (thrs l zs))))
set_option maxRecDepth 100000 in
set_option maxHeartbeats 8000000 in
theorem refsched_any (l : List Ev) (m : Nat) (hm : m = l.length) (hl : m ≤ 5000) (A : Option Addr) (cap : Nat) (zs : List Int) (q : Nat) (hq : q = zs.length) (hql : q ≤ 100000) (Ao : Option Addr) (co B : Nat) (w : World) (hA : Evs w B A l) (hO : Zs w B Ao zs) (hB : B ≤ w.heap.size) :
    Calls Try.prog 17 #[.slice A m cap, .slice Ao q co] w (RSchedP l m zs w) := by
  have HA := Lib.hid hA; have HO := Lib.hid hO; have HM := Lib.hid hm; have HQ := Lib.hid hq
  clear hA hO hm hq
  have hmk := fun W => run_make_el EB m m (by simp) (by omega) (by omega) W
  go_enter Try.func17, Try.ntmps17
  by_cases hqm : q = m
  rotate_left
  · have d0 : ((q : Int) != (m : Int)) = true := by rw [bne_iff_ne]; omega
    have HNK : Hid (schedOk m zs = false) := Lib.hid (by unfold schedOk; rw [← HQ.out, decide_eq_false hqm]; rfl)
    clear hqm
    go_wp2_with fail
    go_ret2
    exact ⟨below_alloc _ _, .inl ⟨HNK.out, rfl⟩⟩
  subst hqm
  go_wp2_with fail
  have HF0 := Lib.hid (FlagR.made w q)
  obtain ⟨g, hg⟩ : ∃ g, g = w.heap.size := ⟨_, rfl⟩
  have HG := Lib.hid hg
  rw [← hg] at HF0 ⊢
  obtain ⟨w1, hw1⟩ : ∃ w1, w1 = w.alloc (.cells (Array.replicate q (.bool false)) 4) := ⟨_, rfl⟩
  rw [← hw1] at HF0 ⊢
  clear hg hw1 hmk
  go_loopw [7, 8] (fun ov iv wr => ∃ k : Nat, k ≤ q ∧ iv = .int .i64 (k : Nat) ∧ (∀ j, j < k → badS q zs j = false) ∧ FlagR w wr g q (fun x => decide ((x : Int) ∈ zs.take k)) ∧ wr.ownsRow (g + 1) 3 1 ov k (zcl (thrs l (zs.take k)))) (fun _ iv _ => q - (intOf iv).toNat)
  case atStart => exact ⟨0, by omega, by go_num, fun j hj => by omega, HF0.out.congr (fun k _ => by simp), World.ownsRow_nil _ _ _ _⟩
  case round =>
    obtain ⟨k, hk, rfl, hgood, hms, ho⟩ := hrel
    have HGD := Lib.hid hgood; have HMS := Lib.hid hms; have HR := Lib.hid ho
    have HBL : Hid (Below w.heap.size w wr) := Lib.hid (by have := hms.bel; rw [HG.out] at this; exact this)
    obtain ⟨A5, c5, rfl, _⟩ := own_rd HR.out
    by_cases hlt : k < q
    · have hkz : k < zs.length := by rw [← HQ.out]; exact hlt
      obtain ⟨bo, fo, rfl, hbo, e0⟩ := HO.out k hkz
      have c0 := (HBL.out.cell (p := ⟨bo, fo + k, none⟩) (Nat.lt_of_lt_of_le hbo hB)).trans e0
      obtain ⟨z, hz⟩ : ∃ z, z = zs.getD k 0 := ⟨_, rfl⟩
      rw [← hz] at c0
      have HZ := Lib.hid hz
      have HNO : Hid (badS q zs k = true → RSchedP l q zs w (.returned (.tuple #[.slice none 0 0, .int .i64 2])) wr) := Lib.hid fun h => ⟨HBL.out, .inl ⟨sched_no hkz h, rfl⟩⟩
      clear e0 hz hgood hms ho
      by_cases h1 : z < 0
      · have HX := Lib.hid (HNO.out (by unfold badS; rw [← HZ.out]; simp [h1]))
        go_wp2_with fail
        go_ret2
        exact HX.out
      · by_cases h2 : (q : Int) ≤ z
        · have HX := Lib.hid (HNO.out (by unfold badS; rw [← HZ.out]; simp [h2]))
          go_wp2_with fail
          go_ret2
          exact HX.out
        · obtain ⟨x, rfl⟩ : ∃ x : Nat, z = x := ⟨z.toNat, by omega⟩
          have hxm : x < q := by omega
          obtain ⟨c1, f1⟩ := HMS.out.cell hxm
          by_cases h3 : (x : Int) ∈ zs.take k
          · have HX := Lib.hid (HNO.out (by unfold badS; rw [← HZ.out]; simp [h3]))
            simp only [h3, decide_true] at c1
            clear h3
            go_wp2_with fail
            go_ret2
            exact HX.out
          · have HGK : Hid (badS q zs k = false) := Lib.hid (by unfold badS; rw [← HZ.out, decide_eq_false h1, decide_eq_false h2, decide_eq_false h3]; rfl)
            simp only [h3, decide_false] at c1
            obtain ⟨be, oe, rfl, hbe, e1, _, _⟩ := HA.out x (by rw [← HM.out]; exact hxm)
            have HTH : Hid (zcl (thrs l (zs.take (k + 1))) = zcl (thrs l (zs.take k)) ++ [.int .i64 (ev l x).t]) := Lib.hid (by rw [thrs_succ l hkz, ← HZ.out]; rfl)
            have HTM : Hid (∀ y : Nat, (if y = x then true else decide ((y : Int) ∈ zs.take k)) = decide ((y : Int) ∈ zs.take (k + 1))) := Lib.hid fun y => by
              have e : ((y : Int) ∈ zs.take (k + 1)) ↔ ((y : Int) ∈ zs.take k ∨ (y : Int) = (x : Int)) := by rw [take_mem_succ hkz, ← HZ.out]
              by_cases h : y = x
              · rw [if_pos h, decide_eq_true (e.2 (.inr (by omega)))]
              · rw [if_neg h]
                exact decide_eq_decide.2 ⟨fun h' => e.2 (.inl h'), fun h' => (e.1 h').resolve_right (by omega)⟩
            have E1 := Lib.hid e1; have HBE := Lib.hid (Nat.lt_of_lt_of_le hbe hB)
            generalize (ev l x).t = tt at *
            obtain ⟨hfw, hgw⟩ := HMS.out.write true hxm
            have HFW := Lib.hid hfw
            have HO2 := Lib.hid (HMS.out.own HR.out hgw)
            clear h3 e1 hbe hfw hgw
            go_upto_region 11 with (fail)
            obtain ⟨w5, hw5⟩ : ∃ w5, w5 = wr.setCell ⟨g, x, none⟩ (.bool true) := ⟨_, rfl⟩
            rw [← hw5] at HFW HO2 ⊢
            clear hw5
            have hBG : w.heap.size ≤ g := by have := HG.out; omega
            have c2 := (HFW.out.bel.cell (p := ⟨be, oe + x * 3, none⟩) (show be < g by have := HBE.out; omega)).trans E1.out
            have c3 := (HFW.out.bel.cell (p := ⟨bo, fo + k, none⟩) (show bo < g by omega)).trans (show w.cell? ⟨bo, fo + k, none⟩ = some (.int .i64 (x : Nat)) by
              obtain ⟨bo', fo', e', _, e0⟩ := HO.out k hkz
              injection e' with e'
              injection e' with e2 e3
              subst e2 e3
              rw [← HZ.out] at e0
              exact e0)
            clear c0 c1 f1
            go_wp2_with (at_builtin; refine wpList_append_one0 EI rfl (.tmp 52) (.tmp 61) rfl (g + 1) (.int .i64 tt) rfl _ k _ rfl HO2.out rfl (by omega) (by omega) _ HFW.out.lt (Below.refl _ _) ?_; intro v6 w6 h2 h3 h4 h5; clear h4 h5; obtain ⟨A8, c8, rfl, _⟩ := own_rd h2; have O6 := Lib.hid h2; have HF6 := Lib.hid (HFW.out.ext h3); clear h2 h3)
            go_roundw
            case rel =>
              refine ⟨k + 1, by omega, by go_num, fun j hj => ?_, HF6.out.congr fun y _ => HTM.out y, by rw [HTH.out]; exact O6.out⟩
              by_cases e : j = k
              · rw [e]; exact HGK.out
              · exact HGD.out j (by omega)
            case measure => simp [intOf]; omega
    · obtain rfl : k = q := by omega
      have HOK : Hid (schedOk k zs = true) := Lib.hid (by rw [sched_yes (fun j hj => HGD.out j (by rw [HQ.out]; exact hj)), ← HQ.out]; simp)
      have HR2 : Hid (wr.ownsRow w.heap.size 3 1 (.slice A5 k c5) k (zcl (thrs l zs))) := Lib.hid (by
        have := own_lowI HR.out (show w.heap.size ≤ g + 1 by have := HG.out; omega)
        rw [HQ.out, List.take_length, ← HQ.out] at this; exact this)
      clear hgood hms ho
      go_wp2_with fail
      go_ret2
      exact ⟨HBL.out, .inr ⟨HOK.out, _, rfl, by rw [← HQ.out]; exact HR2.out⟩⟩
end Go.Proofs.Ytaalinhkikmfaaa
end

section
set_option linter.unusedSimpArgs false
set_option linter.unusedVariables false
namespace Go.Proofs.Ytaalinhkikmfaaa
open Go.RowKit

def zof4 (o : List Nat) : List Int := o.map fun (x : Nat) => (x : Int)
theorem take_more {α : Type} [DecidableEq α] {la lb : List α} {k : Nat} (d : α) (h1 : k < la.length) (h2 : k < lb.length) (h : la.take k = lb.take k) (he : la.getD k d = lb.getD k d) : la.take (k + 1) = lb.take (k + 1) := by
  rw [List.take_succ_eq_append_getElem h1, List.take_succ_eq_append_getElem h2, h]
  congr 2
  simpa [List.getD_eq_getElem?_getD, h1, h2] using he
set_option maxRecDepth 100000 in
set_option maxHeartbeats 4000000 in
theorem same_zs (la lb : List Int) (n1 n2 : Nat) (h1 : n1 = la.length) (h2 : n2 = lb.length) (hl : n1 ≤ 1000000000) (hl2 : n2 ≤ 1000000000) (A A' : Option Addr) (c c' B : Nat) (w : World) (hA : Zs w B A la) (hA' : Zs w B A' lb) (hB : B ≤ w.heap.size) :
    Calls Try.prog 18 #[.slice A n1 c, .slice A' n2 c'] w fun e w' => e = .returned (.bool (decide (la = lb))) ∧ Below w.heap.size w w' := by
  have HA := Lib.hid hA; have HA' := Lib.hid hA'; have H1 := Lib.hid h1; have H2 := Lib.hid h2
  clear hA hA' h1 h2
  by_cases hne : n1 = n2
  · subst hne
    go_enter Try.func18, Try.ntmps18
    go_wp2_with fail
    go_loopw [5] (fun i wr => ∃ k : Nat, k ≤ n1 ∧ i = .int .i64 k ∧ la.take k = lb.take k ∧ Below w.heap.size w wr) (fun i _ => n1 - (intOf i).toNat)
    case atStart => exact ⟨0, by omega, rfl, rfl, Below.refl _ _⟩
    case round =>
      obtain ⟨k, hk, rfl, htk, hb⟩ := hrel
      have Hb := Lib.hid hb; have HTK := Lib.hid htk
      clear hb htk
      by_cases hlt : k < n1
      · have hk1 : Hid (k < la.length) := Lib.hid (by have := H1.out; omega)
        have hk2 : Hid (k < lb.length) := Lib.hid (by have := H2.out; omega)
        obtain ⟨b, o, rfl, h0, h1⟩ := HA.out k hk1.out
        obtain ⟨b', o', rfl, h0', h2⟩ := HA'.out k hk2.out
        have T : Hid (∀ W, Below wr.heap.size wr W → W.cell? ⟨b, o + k, none⟩ = some (.int .i64 (la.getD k 0)) ∧ W.cell? ⟨b', o' + k, none⟩ = some (.int .i64 (lb.getD k 0))) := Lib.hid (fun W hW => by
          have hW := Hb.out.trans (hW.mono Hb.out.size)
          exact ⟨(hW.cell (p := ⟨b, o + k, none⟩) (Nat.lt_of_lt_of_le h0 hB)).trans h1, (hW.cell (p := ⟨b', o' + k, none⟩) (Nat.lt_of_lt_of_le h0' hB)).trans h2⟩)
        have HM := Lib.hid (take_more (0 : Int) hk1.out hk2.out HTK.out)
        have HX : Hid (la = lb → la.getD k 0 = lb.getD k 0) := Lib.hid (fun e => by rw [e])
        clear h1 h2
        generalize la.getD k 0 = x at *
        generalize lb.getD k 0 = y at *
        by_cases he : x = y
        · have HM2 := Lib.hid (HM.out he)
          have g1 : (x != y) = false := by rw [he]; simp
          have g2 : (x == y) = true := by rw [he]; simp
          go_upto_region 6 with (fail)
          apply wp_region_relH (H := []) 9 [(Sum.inl _ : TT), (Sum.inl _ : TT), (Sum.inl _ : TT), (Sum.inl _ : TT), (Sum.inl _ : TT), (Sum.inl _ : TT), (Sum.inl _ : TT), (Sum.inl _ : TT), (Sum.inl _ : TT)] (by kernel_rfl) (by kernel_rfl) (fun _ _ _ _ _ h => h) rfl
          simp only [List.take_succ_cons, List.take_zero, List.drop_succ_cons, List.drop_zero]
          iterate 9 (apply rel_isS; (intro W hW hf; obtain ⟨hx1, hx2⟩ := T.out W hW; go_simp; first | exact ⟨StayS.refl _ _, rfl⟩ | rfl); simp only [Act.put, List.setIfInBounds_toArray, List.set_cons_succ, List.set_cons_zero])
          refine rel_endS ?_
          intro W hW hf
          try simp only [Act.put, List.setIfInBounds_toArray, List.set_cons_succ, List.set_cons_zero]
          have HW := Lib.hid (Hb.out.trans (hW.mono Hb.out.size))
          clear hW hf
          go_wp2_with fail
          go_roundw
          case rel => exact ⟨k + 1, by omega, by go_num, HM2.out, HW.out⟩
          case measure => simp [intOf]; omega
        · have HF : Hid (decide (la = lb) = false) := Lib.hid (decide_eq_false fun e => he (HX.out e))
          have g1 : (x != y) = true := by rw [bne_iff_ne]; exact he
          have g2 : (x == y) = false := by rw [beq_eq_false_iff_ne]; exact he
          go_upto_region 6 with (fail)
          apply wp_region_relH (H := []) 9 [(Sum.inl _ : TT), (Sum.inl _ : TT), (Sum.inl _ : TT), (Sum.inl _ : TT), (Sum.inl _ : TT), (Sum.inl _ : TT), (Sum.inl _ : TT), (Sum.inl _ : TT), (Sum.inl _ : TT)] (by kernel_rfl) (by kernel_rfl) (fun _ _ _ _ _ h => h) rfl
          simp only [List.take_succ_cons, List.take_zero, List.drop_succ_cons, List.drop_zero]
          iterate 9 (apply rel_isS; (intro W hW hf; obtain ⟨hx1, hx2⟩ := T.out W hW; go_simp; first | exact ⟨StayS.refl _ _, rfl⟩ | rfl); simp only [Act.put, List.setIfInBounds_toArray, List.set_cons_succ, List.set_cons_zero])
          refine rel_endS ?_
          intro W hW hf
          try simp only [Act.put, List.setIfInBounds_toArray, List.set_cons_succ, List.set_cons_zero]
          have HW := Lib.hid (Hb.out.trans (hW.mono Hb.out.size))
          clear hW hf
          go_wp2_with fail
          go_ret
          exact ⟨ret_bool (by rw [HF.out]), HW.out⟩
      · obtain rfl : k = n1 := by omega
        have HE : Hid (decide (la = lb) = true) := Lib.hid (decide_eq_true (by
          have := HTK.out
          rwa [List.take_of_length_le (by rw [← H1.out]; exact Nat.le_refl _), List.take_of_length_le (by rw [← H2.out]; exact Nat.le_refl _)] at this))
        go_wp2_with fail
        go_ret
        exact ⟨ret_bool (by rw [HE.out]), Hb.out⟩
  · have HF : Hid (decide (la = lb) = false) := Lib.hid (decide_eq_false fun e => hne (by rw [H1.out, H2.out, e]))
    have g1 : ((n1 : Int) != (n2 : Int)) = true := by rw [bne_iff_ne]; omega
    go_enter Try.func18, Try.ntmps18
    go_wp2_with fail
    go_ret
    exact ⟨ret_bool (by rw [HF.out]), Below.refl _ _⟩
theorem zs_yes (l : List Int) (n : Nat) (h : n = l.length) (hl : n ≤ 1000000000) (A A' : Option Addr) (c c' B : Nat) (w : World) (hA : Zs w B A l) (hA' : Zs w B A' l) (hB : B ≤ w.heap.size) :
    Calls Try.prog 18 #[.slice A n c, .slice A' n c'] w fun e w' => e = .returned (.bool true) ∧ Below w.heap.size w w' := by
  have := same_zs l l n n h h hl hl A A' c c' B w hA hA' hB
  rwa [decide_eq_true (rfl : l = l)] at this
def mkZ (i : Nat) : Int := -77 - (i : Int)
def lentZ (l : List Int) : List Int := l ++ [mkZ l.length, mkZ (l.length + 1), mkZ (l.length + 2)]
theorem lentZ_length (l : List Int) : (lentZ l).length = l.length + 3 := by simp [lentZ]
theorem lentZ_lt (l : List Int) (i : Nat) (h : i < l.length) : (lentZ l).getD i 0 = l.getD i 0 := by
  simp [lentZ, List.getD_eq_getElem?_getD, List.getElem?_append_left h]
theorem lentZ_at (l : List Int) (k : Nat) (h : k < 3) : (lentZ l).getD (l.length + k) 0 = mkZ (l.length + k) := by
  have : k = 0 ∨ k = 1 ∨ k = 2 := by omega
  rcases this with rfl | rfl | rfl <;> simp [lentZ, List.getD_eq_getElem?_getD]
theorem zcl_get {l : List Int} {i : Nat} (h : i < l.length) : (zcl l)[i]? = some (.int .i64 (l.getD i 0)) := by simp [zcl, List.getD_eq_getElem?_getD, h]
theorem zcl_length (l : List Int) : (zcl l).length = l.length := by simp [zcl]
theorem zcl_one (l : List Int) : ∀ u ∈ zcl l, u.oneCell' = true := by
  intro u hu
  obtain ⟨x, _, rfl⟩ := List.mem_map.1 hu
  rfl
theorem Zs.rd {w : World} {B : Nat} {A : Option Addr} {l : List Int} (h : Zs w B A l) : Rd w B A (zcl l) := fun i u hu => by
  have hi : i < l.length := by
    have := (List.getElem?_eq_some_iff.1 hu).1
    rwa [zcl_length] at this
  rw [zcl_get hi] at hu
  injection hu with hu
  subst hu
  exact h i hi
theorem Zs.of_rd {w : World} {B : Nat} {A : Option Addr} {l : List Int} (h : Rd w B A (zcl l)) : Zs w B A l := fun i hi => h i _ (zcl_get hi)
theorem icl_zof (l : List Nat) : icl l = zcl (zof4 l) := by simp [icl, zcl, zof4]
set_option maxRecDepth 100000 in
set_option maxHeartbeats 4000000 in
theorem lent_ints (l : List Int) (m : Nat) (hm : m = l.length) (hl : m ≤ 1000000) (A : Option Addr) (cap : Nat) (w : World) (hA : Zs w w.heap.size A l) :
    Calls Try.prog 9 #[.slice A m cap] w fun e w' => ∃ g cur, e = .returned (.slice (some ⟨g, 0, none⟩) m (m + 3)) ∧ w.heap.size ≤ g ∧
      w'.heap[g]? = some (.cells cur 3 (0, 0)) ∧ (∀ j, j < m + 3 → cur[j]? = some (.int .i64 ((lentZ l).getD j 0))) ∧ Below w.heap.size w w' := by
  have hmk := fun W => run_make_el EI (m + 3) ((m : Int) + 3) (by simp) (by omega) (by omega) W
  obtain ⟨w1, hcp, hw1, hb1⟩ := run_copy_fresh EI 3 w A (zcl l) m cap (m + 3) (by rw [zcl_length, hm]) (by omega) hA.rd (zcl_one l)
  obtain ⟨cur, hcur⟩ : ∃ cur : Array Value, cur = (zcl l ++ List.replicate (m + 3 - m) (Value.int .i64 0)).toArray := ⟨_, rfl⟩
  rw [← hcur] at hw1
  have hsz : cur.size = m + 3 := by rw [hcur]; simp [zcl_length, hm]
  have HM := Lib.hid hm; have Hw1 := Lib.hid hw1; have Hb1 := Lib.hid hb1; have HZ1 := Lib.hid hsz
  have H0 : Hid (∀ j, j < m → cur[j]? = some (.int .i64 ((lentZ l).getD j 0))) := Lib.hid (fun j hj => by
    rw [hcur, List.getElem?_toArray, List.getElem?_append_left (by rw [zcl_length, ← hm]; exact hj), zcl_get (by rw [← hm]; exact hj), lentZ_lt l j (by rw [← hm]; exact hj)])
  have HAt : Hid (∀ k, k < 3 → (lentZ l).getD (m + k) 0 = -77 - ((m : Int) + (k : Int))) := Lib.hid (fun k hk => by
    rw [hm, lentZ_at l k hk, mkZ]; simp)
  clear hA hm hw1 hb1 hsz hcur
  generalize lentZ l = zs at *
  go_enter Try.func9, Try.ntmps9
  go_wp2
  clear hcp hmk
  generalize hg : w.heap.size = g
  rw [hg] at Hw1 Hb1
  have Hg := Lib.hid hg
  clear hg
  go_loopw [4] (fun i wr => ∃ (k : Nat) (cu : Array Value), k ≤ 3 ∧ i = .int .i64 ((m : Int) + k) ∧ wr.heap[g]? = some (.cells cu 3 (0, 0)) ∧ cu.size = m + 3 ∧ (∀ j, j < m + k → cu[j]? = some (.int .i64 (zs.getD j 0))) ∧ Below g w wr) (fun i _ => m + 3 - (intOf i).toNat)
  case atStart => exact ⟨0, cur, by omega, by go_num, Hw1.out, HZ1.out, H0.out, Hb1.out⟩
  case round =>
    obtain ⟨k, cu, hk, rfl, hw, hs, hc, hb⟩ := hrel
    have Hw := Lib.hid hw; have Hb := Lib.hid hb; have HC := Lib.hid hc; have HS := Lib.hid hs
    clear hw hb hc hs
    by_cases hlt : k < 3
    · obtain ⟨y0, hy0⟩ : ∃ y, cu[m + k]? = some y := ⟨_, Array.getElem?_eq_getElem (by have := HS.out; omega)⟩
      have c0 : wr.cell? ⟨g, m + k, none⟩ = some y0 := by rw [cell_blk Hw.out]; exact hy0
      have f0 : ∀ j, wr.frozen? ⟨g, j, none⟩ = false := fun j => free_blk Hw.out _
      have e0 : IntKind.i64.wrap (-77 - ((m : Int) + (k : Int))) = -77 - ((m : Int) + (k : Int)) := wi64 _ (by omega) (by omega)
      clear hy0
      go_wp2
      go_roundw
      case rel =>
        refine ⟨k + 1, _, by omega, by go_num, set_blk Hw.out _ _, by simp [HS.out], fun j hj => ?_, Hb.out.setCell (by simp) _⟩
        have hlt3 : m + k < cu.size := by have := HS.out; omega
        by_cases e2 : j = m + k
        · subst e2
          rw [Array.getElem?_setIfInBounds_self_of_lt hlt3, HAt.out k hlt]
        · rw [Array.getElem?_setIfInBounds_ne (by omega)]
          exact HC.out j (by omega)
      case measure => simp [intOf]; omega
    · obtain rfl : k = 3 := by omega
      go_wp2
      go_ret
      exact ⟨g, cu, rfl, Nat.le_of_eq Hg.out, Hw.out, HC.out, by rw [Hg.out]; exact Hb.out⟩
theorem lentZ_zs {w : World} {g m : Nat} {cur : Array Value} {l : List Int} (hm : m = l.length) (hg : w.heap[g]? = some (.cells cur 3 (0, 0))) (hc : ∀ j, j < m + 3 → cur[j]? = some (.int .i64 ((lentZ l).getD j 0))) : Zs w (g + 1) (some ⟨g, 0, none⟩) (lentZ l) := fun j hj => by
  rw [lentZ_length, ← hm] at hj
  refine ⟨g, 0, rfl, by omega, ?_⟩
  rw [cell_blk (T := 3) hg]
  simpa using hc j hj
theorem lent_zs {w : World} {B : Nat} {A : Option Addr} {l : List Int} (h : Zs w B A (lentZ l)) : Zs w B A l := fun i hi => by
  have := h i (by rw [lentZ_length]; omega)
  rwa [lentZ_lt l i hi] at this
set_option maxRecDepth 100000 in
set_option maxHeartbeats 4000000 in
theorem kept_ints (l : List Int) (m : Nat) (hm : m = l.length) (hl : m ≤ 100000) (A : Option Addr) (cap g : Nat) (cur : Array Value) (w : World) (hA : Zs w w.heap.size A l) (hA0 : A = none → m = 0) (hg : w.heap[g]? = some (.cells cur 3 (0, 0))) (hc : ∀ j, j < m + 3 → cur[j]? = some (.int .i64 ((lentZ l).getD j 0))) :
    Calls Try.prog 22 #[.slice (some ⟨g, 0, none⟩) m (m + 3), .slice A m cap] w fun e w' => e = .returned (.bool true) ∧ Below w.heap.size w w' := by
  have HA := Lib.hid hA
  have HA0 := Lib.hid hA0
  have Hg := Lib.hid (lentZ_zs hm hg hc)
  have Hgl := Lib.hid (lt_blk hg)
  have HM := Lib.hid hm
  have Hlen : Hid (m + 3 = (lentZ l).length) := Lib.hid (by rw [lentZ_length, hm])
  clear hA hg hA0 hc hm
  obtain ⟨c, hc⟩ : ∃ c, c = m + 3 := ⟨_, rfl⟩
  rw [← hc] at Hlen ⊢
  have Hc := Lib.hid hc
  have x1 : (0 : Int) ≤ c := by omega
  have x2 : (0 : Int) ≤ (m : Int) + 3 := by omega
  have x3 : (m : Int) + 3 ≤ c := by omega
  have x4 : ((m : Int) + 3).toNat = c := by omega
  have x5 : IntKind.i64.wrap ((m : Int) + 3) = (m : Int) + 3 := wi64 _ (by omega) (by omega)
  clear hc
  go_enter Try.func22, Try.ntmps22
  go_wp2
  go_region_held3 (fun w' => Below w.heap.size w w') (first | exact (Below.refl _ _).drew | assumption) ((first
    | (go_at_call 9; refine (lent_ints l m HM.out (by have := Hc.out; omega) A cap _ ?_).mono ?_; exact HA.out; rintro e w1 ⟨g1, cu1, rfl, hg1, hw1, hcu1, hb1⟩; have hbw1 : Below w.heap.size w w1 := (Below.refl _ _).drew.trans hb1; have Hw1 := Lib.hid (lentZ_zs HM.out hw1 hcu1); have Hl1 := Lib.hid (lt_blk hw1); clear hw1 hb1 hcu1; rw [← Hc.out])
    | (go_at_call 18; refine (zs_yes (lentZ l) c Hlen.out (by have := Hc.out; omega) _ _ _ _ w1.heap.size w1 ?_ ?_ ?_).mono ?_; exact ((Hg.out.more Hgl.out).below hbw1).more hbw1.size; exact Hw1.out.more Hl1.out; exact Nat.le_refl _; rintro e w2 ⟨rfl, hb2⟩; have hbw2 : Below w.heap.size w w2 := hbw1.trans (hb2.mono hbw1.size); clear hb2)))
  go_wp2
  go_ret
  exact ⟨rfl, by assumption⟩
theorem slice_spare {cur : Array Value} {n cap : Nat} {xs : List Value} {z : Value} (hsz : cur.size = cap) (ht : cur.toList.take n = xs) (hd : ∀ x ∈ cur.toList.drop n, x = z) (j : Nat) (hj : j < cap) :
    ∃ u, cur[j]? = some u ∧ (u ∈ xs ∨ u = z) := by
  have hj' : j < cur.toList.length := by rw [Array.length_toList, hsz]; exact hj
  refine ⟨cur.toList[j], by rw [← Array.getElem?_toList, List.getElem?_eq_getElem hj'], ?_⟩
  rcases Nat.lt_or_ge j n with h | h
  · left
    rw [← ht, List.mem_iff_getElem?]
    exact ⟨j, by rw [List.getElem?_take_of_lt h, List.getElem?_eq_getElem hj']⟩
  · right
    refine hd _ ?_
    rw [List.mem_iff_getElem?]
    exact ⟨j - n, by rw [List.getElem?_drop, show n + (j - n) = j by omega, List.getElem?_eq_getElem hj']⟩
/-- a row of numbers. -/
def AnyI (w : World) (g n : Nat) : Prop := ∃ cs, w.heap[g]? = some (.cells cs 3 (0, 0)) ∧ cs.size = n ∧ ∀ j, j < n → ∃ z, cs[j]? = some (.int .i64 z)
set_option maxRecDepth 100000 in
set_option maxHeartbeats 1000000 in
theorem overI_any (g n c : Nat) (hn : c ≤ 9223372036854775807) (w : World) (hg : AnyI w g c) :
    Calls Try.prog 20 #[.slice (some ⟨g, 0, none⟩) n c] w fun e w' => e = .returned (.tuple #[]) ∧ w.grownBy w' (some g) := by
  have HG := Lib.hid hg
  clear hg
  go_enter Try.func20, Try.ntmps20
  go_wp2_with fail
  go_loopw [3] (fun i wr => ∃ k : Nat, k ≤ c ∧ i = .int .i64 (k : Int) ∧ AnyI wr g c ∧ w.grownBy wr (some g)) (fun i _ => c - (intOf i).toNat)
  case atStart => exact ⟨0, by omega, by go_num, HG.out, World.grownBy.refl w _⟩
  case round =>
    obtain ⟨k, hk, rfl, ha, hb⟩ := hrel
    have Hb := Lib.hid hb
    clear hb
    by_cases hlt : k < c
    · obtain ⟨cs, h1, h2, h3⟩ := ha
      obtain ⟨z, hz⟩ := h3 k hlt
      have H1 := Lib.hid h1; have H2 := Lib.hid h2; have H3 := Lib.hid h3
      have c1 : wr.cell? ⟨g, k, none⟩ = some (.int .i64 z) := by
        rw [cell_blk h1]; exact hz
      have c2 : wr.frozen? ⟨g, k, none⟩ = false := free_blk h1 _
      clear h1 h2 h3 hz
      go_wp2_with fail
      go_roundw
      case rel => 
        refine ⟨k + 1, by omega, by go_num, ?_, grown_setCell Hb.out rfl _⟩
        refine ⟨_, set_blk H1.out _ _, by simp [H2.out], fun j hj => ?_⟩
        by_cases e : j = k
        · subst e
          exact ⟨_, by rw [Array.getElem?_setIfInBounds_self]; simp [H2.out, hlt]; rfl⟩
        · obtain ⟨z', hz'⟩ := H3.out j hj
          exact ⟨z', by rw [Array.getElem?_setIfInBounds_ne (Ne.symm e)]; exact hz'⟩
      case measure => simp [intOf]; omega
    · obtain rfl : k = c := by omega
      go_wp2_with fail
      go_end0
      exact ⟨rfl, Hb.out⟩
theorem overI_at {w : World} {base n : Nat} {v : Value} {l : List Int} (h : w.ownsRow base 3 1 v n (zcl l)) (hs : Spare (.int .i64 0) n v w) :
    Calls Try.prog 20 #[v] w fun e w' => e = .returned (.tuple #[]) ∧ w.grownBy w' v.ownBlock := by
  rcases h.2 with ⟨rfl, rfl⟩ | ⟨g, cap, cur, rfl, hb, hg, hn, hc, hsz, ht⟩
  · go_enter Try.func20, Try.ntmps20
    go_wp2_with fail
    go_loopw [3] (fun i wr => i = .int .i64 0 ∧ wr = w) (fun i _ => 0)
    case atStart => exact ⟨rfl, rfl⟩
    case round =>
      obtain ⟨rfl, rfl⟩ := hrel
      go_wp2_with fail
      go_end0
      exact ⟨rfl, World.grownBy.refl _ _⟩
  · obtain ⟨cur', e', m', hc', hd⟩ := hs g rfl
    rw [hg] at hc'; cases hc'
    refine overI_any g n cap (by simpa [maxLen] using hc) w ⟨cur, hg, by omega, fun j hj => ?_⟩
    obtain ⟨u, hu, hm⟩ := slice_spare (by omega) (by simpa using ht) hd j hj
    rcases hm with hm | rfl
    · simp only [zcl, List.mem_map] at hm
      obtain ⟨b, _, rfl⟩ := hm
      exact ⟨_, hu⟩
    · exact ⟨_, hu⟩
def HeavyP (l : List Ev) (m : Nat) (n : Int) (w : World) (e : Ending) (w' : World) : Prop := w' = w ∧ (e = .returned (.bool true) ∨ (e = .returned (.bool false) ∧ m ≤ 1029 ∧ (m ≤ 100 ∨ wrongE l n ≠ 0)))
set_option maxRecDepth 100000 in
set_option maxHeartbeats 4000000 in
theorem heavy_any (l : List Ev) (m : Nat) (hm : m = l.length) (hm2 : m ≤ 140737488351232) (n : Int) (A : Option Addr) (cap : Nat) (w : World) :
    Calls Try.prog 7 #[.slice A m cap, .int .i64 n] w (HeavyP l m n w) := by
  have HW : Hid (1024 < m → wrongE l n ≠ 0) := Lib.hid fun h h0 => by have := (wrong_ok h0).2.2.1; omega
  have HW2 : Hid (¬ (1 ≤ n ∧ n ≤ 16) → wrongE l n ≠ 0) := Lib.hid fun h h0 => h ⟨(wrong_ok h0).1, (wrong_ok h0).2.1⟩
  clear hm
  go_enter Try.func7, Try.ntmps7
  by_cases h1 : m ≤ 100
  · have h2 : m < 1024 := by omega
    have h3 : ¬ 1029 < m := by omega
    have d0 : ((m : Int) == 1024) = false := by rw [beq_eq_false_iff_ne]; omega
    go_wp2_with fail
    go_ret
    exact ⟨rfl, .inr ⟨ret_bool (by simp <;> omega), by omega, .inl (by omega)⟩⟩
  by_cases h2 : m < 1024
  · go_wp2_with fail
    go_ret
    exact ⟨rfl, .inl rfl⟩
  by_cases h3 : 1029 < m
  · go_wp2_with fail
    go_ret
    exact ⟨rfl, .inl rfl⟩
  by_cases h4 : m = 1024
  · by_cases h5 : 1 ≤ n
    · by_cases h6 : n ≤ 16
      · have d0 : ((m : Int) == 1024) = true := by rw [beq_iff_eq]; omega
        clear h4
        go_wp2_with fail
        go_ret
        exact ⟨rfl, .inl rfl⟩
      · have HX := Lib.hid (HW2.out (fun h => h6 h.2))
        have d0 : ((m : Int) == 1024) = true := by rw [beq_iff_eq]; omega
        clear h4
        go_wp2_with fail
        go_ret
        exact ⟨rfl, .inr ⟨ret_bool (by simp <;> omega), by omega, .inr HX.out⟩⟩
    · have HX := Lib.hid (HW2.out (fun h => h5 h.1))
      have d0 : ((m : Int) == 1024) = true := by rw [beq_iff_eq]; omega
      clear h4
      go_wp2_with fail
      go_ret
      exact ⟨rfl, .inr ⟨ret_bool (by simp <;> omega), by omega, .inr HX.out⟩⟩
  · have HX := Lib.hid (HW.out (by omega))
    have d0 : ((m : Int) == 1024) = false := by rw [beq_eq_false_iff_ne]; omega
    go_wp2_with fail
    go_ret
    exact ⟨rfl, .inr ⟨ret_bool (by simp <;> omega), by omega, .inr HX.out⟩⟩
end Go.Proofs.Ytaalinhkikmfaaa
end

section
set_option linter.unusedSimpArgs false
set_option linter.unusedVariables false
namespace Go.Proofs.Ytaalinhkikmfaaa
open Go.RowKit

/-- block g is a row of m numbers; all ahead of it is as it was. -/
structure LvR (w0 wr : World) (g m : Nat) (lc : Nat → Nat) : Prop where
  at_ : g = w0.heap.size
  bel : Below g w0 wr
  row : LCt wr g m lc
theorem LvR.made (w : World) (m : Nat) : LvR w (w.alloc (.cells (Array.replicate m (.int .i64 0)) 3)) w.heap.size m (fun _ => 0) :=
  ⟨rfl, below_alloc _ _, _, heap_alloc_new _ _, by simp, fun t ht => by simp [ht]⟩
theorem LvR.ext {w0 wr w' : World} {g m : Nat} {S : Nat → Nat} (h : LvR w0 wr g m S) (hb : Below (g + 1) wr w') : LvR w0 w' g m S :=
  ⟨h.at_, h.bel.trans (hb.mono (by omega)), h.row.at (hb.block g (by omega))⟩
theorem LvR.lt {w0 wr : World} {g m : Nat} {S : Nat → Nat} (h : LvR w0 wr g m S) : g + 1 ≤ wr.heap.size := by
  obtain ⟨cur, h1, _⟩ := h.row
  exact lt_blk h1
theorem LvR.below {w0 wr w' : World} {g m : Nat} {S : Nat → Nat} (h : LvR w0 wr g m S) (hb : Below wr.heap.size wr w') : LvR w0 w' g m S := h.ext (hb.mono h.lt)
theorem LvR.congr {w0 wr : World} {g m : Nat} {S S' : Nat → Nat} (h : LvR w0 wr g m S) (hS : ∀ t, t < m → S t = S' t) : LvR w0 wr g m S' := ⟨h.at_, h.bel, h.row.congr hS⟩
theorem LvR.write {w0 wr : World} {g m : Nat} {S : Nat → Nat} (h : LvR w0 wr g m S) (t x : Nat) : LvR w0 (wr.setCell ⟨g, t, none⟩ (.int .i64 (x : Nat))).drew g m (upd S t x) := by
  have hg : wr.grownBy (wr.setCell ⟨g, t, none⟩ (.int .i64 (x : Nat))) (some g) := grown_setCell (World.grownBy.refl _ _) rfl _
  refine ⟨h.at_, (h.bel.grown hg (by obtain ⟨cur, h1, _⟩ := h.row; exact Nat.le_of_lt (lt_blk h1)) (by intro k e; injection e with e; omega)).drew, ?_⟩
  exact (h.row.set t x).at rfl
def RowF (w : World) (B : Nat) (vs : List Value) (f : Nat → List Nat) : Prop := ∀ i, i < vs.length → ∃ v, vs[i]? = some v ∧ w.ownsRow B 3 1 v (f i).length (icl (f i))
theorem RowF.below {w w' : World} {B : Nat} {vs : List Value} {f : Nat → List Nat} (h : RowF w B vs f) (hb : Below w.heap.size w w') : RowF w' B vs f := fun i hi => by
  obtain ⟨v, e, hv⟩ := h i hi
  exact ⟨v, e, own_below hv hb⟩
theorem RowF.grown {w w' : World} {B B' m : Nat} {vs : List Value} {f : Nat → List Nat} {u : Value} {xs : List Value} (h : RowF w B vs f) (ho : w.ownsRow B' 23 1 u m xs) (hg : w.grownBy w' u.ownBlock) : RowF w' B vs f := fun i hi => by
  obtain ⟨v, e, hv⟩ := h i hi
  exact ⟨v, e, hv.kept hg (own_ne hv ho (by decide))⟩
theorem RowF.snoc {w : World} {B k : Nat} {vs : List Value} {f : Nat → List Nat} {v : Value} (h : RowF w B vs f) (hk : vs.length = k) (hv : w.ownsRow B 3 1 v (f k).length (icl (f k))) : RowF w B (vs ++ [v]) f := fun i hi => by
  subst hk
  by_cases e : i < vs.length
  · obtain ⟨v', e', hv'⟩ := h i e
    exact ⟨v', by rw [List.getElem?_append_left e]; exact e', hv'⟩
  · obtain rfl : i = vs.length := by simp at hi; omega
    exact ⟨v, by simp, hv⟩
theorem RowF.low {w : World} {B B' : Nat} {vs : List Value} {f : Nat → List Nat} (h : RowF w B vs f) (hB : B' ≤ B) : RowF w B' vs f := fun i hi => by
  obtain ⟨v, e, hv⟩ := h i hi
  exact ⟨v, e, own_same hv B' hB⟩
def lrowJ (l : List Ev) (k t j : Nat) : List Nat := (List.range j).filter fun j => decide (lv l j = k) && decide ((ev l j).t = (t : Int))
def lrowT (l : List Ev) (k t : Nat) : List Nat := (List.range t).flatMap fun (t : Nat) => lrowJ l k t l.length
theorem lrowT_full (l : List Ev) (n k : Nat) : lrowT l k n = lrow l n k := rfl
theorem lrowT_succ (l : List Ev) (k t : Nat) : lrowT l k (t + 1) = lrowT l k t ++ lrowJ l k t l.length := by simp [lrowT, List.range_succ]
theorem lrowJ_yes {l : List Ev} {k t j : Nat} (h1 : lv l j = k) (h2 : (ev l j).t = (t : Int)) : lrowJ l k t (j + 1) = lrowJ l k t j ++ [j] := by simp [lrowJ, List.range_succ, h1, h2]
theorem lrowJ_no {l : List Ev} {k t j : Nat} (h : ¬ (lv l j = k ∧ (ev l j).t = (t : Int))) : lrowJ l k t (j + 1) = lrowJ l k t j := by
  unfold lrowJ
  rw [List.range_succ, List.filter_append, List.filter_cons, if_neg (by simpa using h)]
  simp
theorem lrowJ_le (l : List Ev) (k t j : Nat) : (lrowJ l k t j).length ≤ j := by
  have := List.length_filter_le (fun j => decide (lv l j = k) && decide ((ev l j).t = (t : Int))) (List.range j)
  simpa [lrowJ] using this
theorem lrowT_le {l : List Ev} (h : l.length ≤ 1024) (k : Nat) : ∀ t, (lrowT l k t).length ≤ t * 1024
  | 0 => by simp [lrowT]
  | t + 1 => by
    rw [lrowT_succ, List.length_append]
    have := lrowT_le h k t
    have := lrowJ_le l k t l.length
    omega
def RLevelsP (l : List Ev) (n : Int) (w : World) (r : Ending) (w' : World) : Prop :=
  Below w.heap.size w w' ∧ ((wrongE l n ≠ 0 ∧ r = .returned (.tuple #[.slice none 0 0, .int .i64 (wrongE l n : Nat)])) ∨
    (wrongE l n = 0 ∧ ∃ v vs, r = .returned (.tuple #[v, .int .i64 0]) ∧ w'.ownsRow w.heap.size 23 1 v (nlv l) vs ∧ RowF w' w.heap.size vs (lrow l n.toNat)))
set_option maxRecDepth 100000 in
set_option maxHeartbeats 8000000 in
theorem reflevels_any (l : List Ev) (m : Nat) (hm : m = l.length) (hl : m ≤ 4611686018427387904) (n : Int) (A : Option Addr) (cap : Nat) (w : World) (hA : Evs w w.heap.size A l) :
    Calls Try.prog 13 #[.slice A m cap, .int .i64 n] w (RLevelsP l n w) := by
  have HW := Lib.hid (refwrong_any l m hm hl n A cap w.heap.size w hA (Nat.le_refl _))
  have HA := Lib.hid hA; have HM := Lib.hid hm
  clear hA hm
  go_enter Try.func13, Try.ntmps13
  go_wp2_with fail
  with_reducible refine HW.out.mono ?_
  rintro e w1 ⟨rfl, hb1⟩
  have HB1 := Lib.hid hb1
  have HA1 := Lib.hid ((HA.out.below hb1).more hb1.size)
  clear hb1 HW
  by_cases hw : wrongE l n = 0
  rotate_left
  · have HWE := Lib.hid hw
    have d1 : (((wrongE l n : Nat) : Int) != 0) = true := by rw [bne_iff_ne]; omega
    obtain ⟨we, hwe⟩ : ∃ we, we = wrongE l n := ⟨_, rfl⟩
    rw [← hwe] at d1 ⊢
    have HE := Lib.hid hwe
    clear hw hwe
    go_wp2_with fail
    go_ret2
    exact ⟨HB1.out, .inl ⟨HWE.out, by rw [← HE.out]; rfl⟩⟩
  have HWE := Lib.hid hw
  have hm1 : m ≤ 1024 := by have := (wrong_ok hw).2.2.1; have := HM.out; omega
  have hn1 := (wrong_ok hw).1
  have hn2 := (wrong_ok hw).2.1
  obtain ⟨n, rfl⟩ := Int.eq_ofNat_of_zero_le (show 0 ≤ n by omega)
  rw [hw]
  clear hw
  have HH := Lib.hid (heads_any l m HM.out (by omega) A cap w1 HA1.out)
  go_wp2_with fail
  with_reducible refine HH.out.mono ?_
  rintro e w2 ⟨v2, γ, rfl, hmat, hb2⟩
  have HB2 := Lib.hid (HB1.out.trans (hb2.mono HB1.out.size))
  have HA2 := Lib.hid ((HA1.out.below hb2).more hb2.size)
  rw [show (fun j k => rc (fun a b => dpd (ev l a) (ev l b)) k j) = fun j k => hb l k j from funext fun j => funext fun k => (hb_rc l k j).symm] at hmat
  have HMT := Lib.hid hmat
  obtain ⟨Ah, ch, rfl, _⟩ := own_rd hmat.1
  have hmk := fun W => run_make_el EI m m (by simp) (by omega) (by omega) W
  clear hb2 hmat HH HA1
  go_wp2_with fail
  have HF0 := Lib.hid (LvR.made w2 m)
  obtain ⟨g, hg⟩ : ∃ g, g = w2.heap.size := ⟨_, rfl⟩
  have HG := Lib.hid hg
  rw [← hg] at HF0 ⊢
  obtain ⟨w3, hw3⟩ : ∃ w3, w3 = w2.alloc (.cells (Array.replicate m (.int .i64 0)) 3) := ⟨_, rfl⟩
  rw [← hw3] at HF0 ⊢
  clear hg hw3 hmk
  have HN0 : Hid (nlvK l 0 = 0) := Lib.hid (by simp [nlvK, top])
  go_wp2_with fail
  go_loopw [9, 10] (fun mv jv wr => ∃ j : Nat, j ≤ m ∧ jv = .int .i64 (j : Nat) ∧ mv = .int .i64 ((nlvK l j : Nat) - 1) ∧ LvR w2 wr g m (fun k => if k < j then lv l k else 0)) (fun _ jv _ => m - (intOf jv).toNat)
  case atStart => exact ⟨0, by omega, by go_num, by rw [HN0.out]; rfl, HF0.out.congr fun t _ => by simp⟩
  case round =>
    obtain ⟨j, hj, rfl, rfl, hf⟩ := hrel
    have HF := Lib.hid hf
    have hnk := nlvK_le l j
    clear hf HF0
    by_cases hjm : j < m
    · have HNS := Lib.hid (nlvK_succ l j)
      generalize hp : nlvK l j = p at *
      clear hp
      go_wp2_with fail
      go_loopw [11] (fun iv wz => ∃ i : Nat, i ≤ j ∧ iv = .int .i64 (i : Nat) ∧ LvR w2 wz g m (fun k => if k < j then lv l k else if k = j then top i (fun i => hb l i j) (fun i => lv l i + 1) else 0)) (fun iv _ => j - (intOf iv).toNat)
      case atStart => exact ⟨0, by omega, by go_num, HF.out.congr fun t _ => by simp [top]⟩
      case round =>
        clear HF
        obtain ⟨i, hi, rfl, hf⟩ := hrel
        have HF := Lib.hid hf
        clear hf
        by_cases hij : i < j
        · have him : i < m := by omega
          have HTS := Lib.hid (top_succ i (fun i => hb l i j) (fun i => lv l i + 1))
          obtain ⟨d1, f1⟩ := HF.out.row.cell hjm
          obtain ⟨d2, _⟩ := HF.out.row.cell him
          simp only [Nat.lt_irrefl, if_false, if_true] at d1
          simp only [hij, if_true] at d2
          have hlv := lv_le l i
          obtain ⟨bh, fh, chh, e, c2, c3⟩ := (HMT.out.ext (HF.out.bel.mono (by rw [HG.out]; exact Nat.le_refl _))).row hjm
          injection e with e1 _ e2
          subst e1 e2
          have c4 := c3 i hij
          have HWT := Lib.hid (fun x => HF.out.write j x)
          obtain ⟨a, ha⟩ : ∃ a, a = top i (fun i => hb l i j) (fun i => lv l i + 1) := ⟨_, rfl⟩
          obtain ⟨q, hq⟩ : ∃ q, q = lv l i := ⟨_, rfl⟩
          rw [← ha] at d1 HTS
          rw [← hq] at d2 hlv HTS
          have fz : ∀ j, wr.frozen? ⟨g, j, none⟩ = false := fun j => by obtain ⟨cs, h1, _⟩ := HF.out.row; exact free_blk h1 j
          have e3 : IntKind.i64.wrap ((q : Int) + 1) = (q : Int) + 1 := wi64 _ (by omega) (by omega)
          have HAE := Lib.hid ha
          clear ha hq c3
          cases hd : hb l i j
          · rw [hd] at HTS c4
            rw [if_neg (by decide)] at HTS
            clear hd
            go_wp2_with fail
            go_roundw
            case rel => exact ⟨i + 1, by omega, by go_num, HF.out.congr fun k' _ => by
              by_cases e : k' = j
              · subst e
                rw [if_neg (Nat.lt_irrefl _), if_neg (Nat.lt_irrefl _), if_pos rfl, if_pos rfl, HTS.out]
                exact HAE.out.symm
              · rw [if_neg e, if_neg e]⟩
            case measure => simp [intOf]; omega
          · rw [hd] at HTS c4
            rw [if_pos rfl] at HTS
            clear hd
            go_wp2_with fail
            go_region
            rw [show (max (a : Int) ((q : Int) + 1)) = ((max a (q + 1) : Nat) : Int) by omega]
            have HS4 : Hid (LvR w2 (wr.setCell ⟨g, j, none⟩ (.int .i64 (max a (q + 1) : Nat))).drew g m (fun k => if k < j then lv l k else if k = j then top (i + 1) (fun i => hb l i j) (fun i => lv l i + 1) else 0)) := Lib.hid ((HWT.out (max a (q + 1))).congr fun k' _ => by
              by_cases e : k' = j
              · subst e
                rw [upd_at, if_neg (Nat.lt_irrefl _), if_pos rfl, HTS.out]
              · rw [upd_ne _ _ e, if_neg e, if_neg e])
            go_wp2_with fail
            exact ⟨⟨i + 1, by omega, by go_num, HS4.out⟩, by simp [intOf]; omega⟩
        · obtain rfl : i = j := by omega
          have HF2 : Hid (LvR w2 wr g m (fun k => if k < i + 1 then lv l k else 0)) := Lib.hid (HF.out.congr fun k _ => by
            rw [← lv_eq]
            by_cases h1 : k < i
            · rw [if_pos h1, if_pos (by omega)]
            · by_cases h2 : k = i
              · rw [if_neg h1, if_pos h2, if_pos (by omega), h2]
              · rw [if_neg h1, if_neg h2, if_neg (by omega)])
          obtain ⟨d1, f1⟩ := HF2.out.row.cell hjm
          rw [if_pos (by omega)] at d1
          obtain ⟨q, hq⟩ : ∃ q, q = lv l i := ⟨_, rfl⟩
          rw [← hq] at d1 HNS
          clear hq HF
          go_wp2_with fail
          go_roundw
          case rel => exact ⟨i + 1, by omega, by go_num, by rw [HNS.out]; go_num, HF2.out⟩
          case measure => simp [intOf]; omega
    · obtain rfl : j = m := by omega
      have HF2 : Hid (LvR w2 wr g j (lv l)) := Lib.hid (HF.out.congr fun k hk => if_pos hk)
      have HK : Hid (nlvK l j = nlv l) := Lib.hid (by rw [HM.out]; rfl)
      rw [HK.out] at hnk ⊢
      generalize hK : nlv l = K at *
      have HKE := Lib.hid hK
      clear HF HK hK
      go_wp2_with fail
      go_loopw [12, 13] (fun ov kv wr => ∃ (k : Nat) (vs : List Value), k ≤ K ∧ kv = .int .i64 (k : Nat) ∧ wr.ownsRow (g + 1) 23 1 ov k vs ∧ RowF wr (g + 1) vs (lrow l n) ∧ LvR w2 wr g j (lv l)) (fun _ kv _ => K - (intOf kv).toNat)
      case atStart => exact ⟨0, [], by omega, by go_num, World.ownsRow_nil _ _ _ _, fun i hi => by simp at hi, HF2.out⟩
      case round =>
        obtain ⟨k, vs, hk, rfl, ho, hr, hf⟩ := hrel
        have HO := Lib.hid ho; have HR := Lib.hid hr; have HF := Lib.hid hf
        obtain ⟨A12, c12, rfl, _⟩ := own_rd ho
        clear ho hr hf HF2
        by_cases hlt : k < K
        · obtain ⟨wo, hwo⟩ : ∃ x, x = wr := ⟨_, rfl⟩
          subst hwo
          have hkk : (k : Int) ≤ (K : Int) - 1 := by omega
          have hkd : decide ((k : Int) ≤ (K : Int) - 1) = true := decide_eq_true hkk
          go_wp2_with fail
          go_loopw [14, 15] (fun rv tv wz => ∃ t q : Nat, t ≤ n ∧ tv = .int .i64 (t : Nat) ∧ q = (lrowT l k t).length ∧ wz.ownsRow wo.heap.size 3 1 rv q (icl (lrowT l k t)) ∧ Below wo.heap.size wo wz) (fun _ tv _ => n - (intOf tv).toNat)
          case atStart => exact ⟨0, 0, by omega, by go_num, rfl, World.ownsRow_nil _ _ _ _, Below.refl _ _⟩
          case round =>
            obtain ⟨t, q, ht, rfl, hq, ho, hb⟩ := hrel
            have HO2 := Lib.hid ho; have HB := Lib.hid hb; have HQ := Lib.hid hq
            have hq2 := lrowT_le (l := l) (by rw [← HM.out]; exact hm1) k t
            rw [← hq] at hq2
            obtain ⟨A14, c14, rfl, _⟩ := own_rd ho
            clear ho hb hq
            by_cases htn : t < n
            · have HL0 : Hid (lrowT l k t ++ lrowJ l k t 0 = lrowT l k t) := Lib.hid (by simp [lrowJ])
              go_wp2_with fail
              go_loopw [14, 16] (fun rv jv wz => ∃ i p : Nat, i ≤ j ∧ jv = .int .i64 (i : Nat) ∧ p = (lrowT l k t ++ lrowJ l k t i).length ∧ wz.ownsRow wo.heap.size 3 1 rv p (icl (lrowT l k t ++ lrowJ l k t i)) ∧ Below wo.heap.size wo wz) (fun _ jv _ => j - (intOf jv).toNat)
              case atStart => exact ⟨0, q, by omega, by go_num, by rw [HL0.out]; exact HQ.out, by rw [HL0.out]; exact HO2.out, HB.out⟩
              case round =>
                clear HO2 HB
                obtain ⟨i, p, hi, rfl, hp, ho, hb⟩ := hrel
                have HO2 := Lib.hid ho; have HB := Lib.hid hb; have HP := Lib.hid hp
                have hp2 : p ≤ q + i := by
                  rw [hp, List.length_append, ← HQ.out]
                  have := lrowJ_le l k t i
                  omega
                obtain ⟨A14, c14, rfl, _⟩ := own_rd ho
                clear ho hb hp
                by_cases hij : i < j
                · have HFW := Lib.hid (HF.out.below HB.out)
                  obtain ⟨d1, f1⟩ := HFW.out.row.cell hij
                  obtain ⟨b, f, rfl, hb0, e1, _, _⟩ := HA2.out i (by rw [← HM.out]; exact hij)
                  have hwb : b < g := by rw [HG.out]; exact hb0
                  have ct := (HFW.out.bel.cell (p := ⟨b, f + i * 3, none⟩) hwb).trans e1
                  clear e1 hb0
                  by_cases h1 : lv l i = k
                  · by_cases h2 : (ev l i).t = (t : Int)
                    · have HY := Lib.hid (lrowJ_yes h1 h2)
                      rw [h1] at d1
                      rw [h2] at ct
                      clear h1 h2
                      go_wp2_with (at_builtin; refine wpList_append_one0 EI rfl (.tmp 96) (.tmp 98) rfl wo.heap.size (.int .i64 (i : Nat)) rfl _ p _ rfl HO2.out rfl (by omega) (by omega) wo (Nat.le_refl _) HB.out ?_; intro v6 w6 h2 h3 h4 h5; clear h4 h5; obtain ⟨A8, c8, rfl, _⟩ := own_rd h2; have O6 := Lib.hid h2; have HB6 := Lib.hid h3; clear h2 h3)
                      go_roundw
                      case rel => exact ⟨i + 1, p + 1, by omega, by go_num, by rw [HY.out, ← List.append_assoc, List.length_append, ← HP.out]; rfl, by rw [HY.out, ← List.append_assoc, icl_snoc]; exact O6.out, HB6.out⟩
                      case measure => simp [intOf]; omega
                    · have HY := Lib.hid (lrowJ_no (l := l) (k := k) (t := t) (j := i) (fun h => h2 h.2))
                      rw [h1] at d1
                      have d2 : ((ev l i).t == (t : Int)) = false := by rw [beq_eq_false_iff_ne]; exact h2
                      generalize (ev l i).t = x at *
                      clear h1 h2
                      go_wp2_with fail
                      go_roundw
                      case rel => exact ⟨i + 1, p, by omega, by go_num, by rw [HY.out]; exact HP.out, by rw [HY.out]; exact HO2.out, HB.out⟩
                      case measure => simp [intOf]; omega
                  · have HY := Lib.hid (lrowJ_no (l := l) (k := k) (t := t) (j := i) (fun h => h1 h.1))
                    have d2 : (((lv l i : Nat) : Int) == (k : Int)) = false := by rw [beq_eq_false_iff_ne]; omega
                    generalize lv l i = x at *
                    clear h1
                    go_wp2_with fail
                    go_roundw
                    case rel => exact ⟨i + 1, p, by omega, by go_num, by rw [HY.out]; exact HP.out, by rw [HY.out]; exact HO2.out, HB.out⟩
                    case measure => simp [intOf]; omega
                · obtain rfl : i = j := by omega
                  have HY : Hid (lrowT l k (t + 1) = lrowT l k t ++ lrowJ l k t i) := Lib.hid (by rw [lrowT_succ, HM.out])
                  go_wp2_with fail
                  go_roundw
                  case rel => exact ⟨t + 1, p, by omega, by go_num, by rw [HY.out]; exact HP.out, by rw [HY.out]; exact HO2.out, HB.out⟩
                  case measure => simp [intOf]; omega
            · obtain rfl : t = n := by omega
              have HOK := Lib.hid (own_below HO.out HB.out)
              have HRK := Lib.hid (HR.out.below HB.out)
              have HFK := Lib.hid (HF.out.below HB.out)
              have hvs : vs.length = k := by have := HO.out.1; omega
              have HVS := Lib.hid hvs
              have HROW := Lib.hid (own_same HO2.out (g + 1) HF.out.lt)
              rw [lrowT_full] at HROW
              rw [lrowT_full] at HQ
              clear hvs HO2
              go_wp2_with (at_builtin; refine wpList_append_one0 EII rfl (.tmp 100) (.tmp 102) rfl (g + 1) (.slice A14 q c14) rfl _ k vs rfl HOK.out rfl (by omega) (by omega) _ HFK.out.lt (Below.refl _ _) ?_; intro v6 w6 h2 h3 h4 h5; clear h5; obtain ⟨A8, c8, rfl, _⟩ := own_rd h2; have O6 := Lib.hid h2; have HF6 := Lib.hid (HFK.out.ext h3); have HR6 := Lib.hid (HRK.out.grown HOK.out h4); have HW6 := Lib.hid (HROW.out.kept h4 (own_ne HROW.out HOK.out (by decide))); clear h2 h3 h4)
              go_roundw
              case rel => exact ⟨k + 1, vs ++ [.slice A14 q c14], by omega, by go_num, O6.out, HR6.out.snoc HVS.out (by rw [← HQ.out]; exact HW6.out), HF6.out⟩
              case measure => simp [intOf]; omega
        · obtain rfl : k = K := by omega
          have hbw : Below w.heap.size w wr := HB2.out.trans (HF.out.bel.mono (by rw [HG.out]; exact HB2.out.size))
          have HBW := Lib.hid hbw
          clear hbw
          have hgs : w.heap.size ≤ g + 1 := by have := HG.out; have := HB2.out.size; omega
          have HGS := Lib.hid hgs
          clear hgs
          go_wp2_with fail
          go_ret2
          exact ⟨HBW.out, .inr ⟨HWE.out, _, vs, rfl, by rw [HKE.out]; exact own_same HO.out _ HGS.out, by rw [Int.toNat_natCast]; exact HR.out.low HGS.out⟩⟩
end Go.Proofs.Ytaalinhkikmfaaa
end

section
set_option linter.unusedSimpArgs false
set_option linter.unusedVariables false
namespace Go.Proofs.Ytaalinhkikmfaaa
open Go.RowKit

theorem spare_below {z : Value} {B n k : Nat} {v : Value} {w w' : World} {e : TypeId} {xs : List Value} (h : Spare z k v w) (ho : w.ownsRow B e 1 v n xs) (hb : Below w.heap.size w w') : Spare z k v w' := fun g hv => by
  obtain ⟨cur, e', m, hc, hp⟩ := h g hv
  exact ⟨cur, e', m, (hb.block g (ho.lt g hv).2).trans hc, hp⟩
/-- blocks below N, and rows from B on. -/
theorem apart {w : World} {B n : Nat} {e : TypeId} {v u : Value} {xs : List Value} (h : w.ownsRow B e 1 v n xs) (hu : ∀ g, u.ownBlock = some g → g < B) : v.ownBlock = none ∨ v.ownBlock ≠ u.ownBlock := by
  cases hv : v.ownBlock with
  | none => exact .inl rfl
  | some k =>
    refine .inr fun e => ?_
    have := hu k e.symm
    have := (h.lt k hv).1
    omega
def lstN (l : List Ev) (n : Int) : List Nat := if wrongE l n = 0 then leastX l else []
def lvN (l : List Ev) (n : Int) : Nat := if wrongE l n = 0 then nlv l else 0
def thrN (l : List Ev) (q : Nat) (zs : List Int) : List Int := if schedOk q zs = true then thrs l zs else []
def scN (q : Nat) (zs : List Int) : Nat := if schedOk q zs = true then 0 else 2
theorem lstN_le {l : List Ev} {n : Int} {q : Nat} (hq : q = l.length) : (lstN l n).length ≤ q := by
  unfold lstN
  split
  · rw [leastX_len, hq]; exact Nat.le_refl _
  · simp
theorem LeastP.one {l : List Ev} {n : Int} {w w' : World} {r : Ending} (h : LeastP l n w r w') : Below w.heap.size w w' ∧ ∃ A k c, r = .returned (.tuple #[.slice A k c, .int .i64 (wrongE l n : Nat)]) ∧ k = (lstN l n).length ∧ w'.ownsRow w.heap.size 3 1 (.slice A k c) k (zcl (zof4 (lstN l n))) ∧ Spare (.int .i64 0) k (.slice A k c) w' ∧ Zs w' w'.heap.size A (zof4 (lstN l n)) := by
  obtain ⟨hb, ⟨hw, rfl⟩ | ⟨hw, v, rfl, ho, hs⟩⟩ := h
  · have e : lstN l n = [] := if_neg hw
    rw [e]
    exact ⟨hb, none, 0, 0, rfl, rfl, World.ownsRow_nil _ _ _ _, Spare.nil _ _ _, fun i hi => by simp [zof4] at hi⟩
  · have e : lstN l n = leastX l := if_pos hw
    rw [e, leastX_len]
    obtain ⟨A, c, rfl, hr, _, _⟩ := own_rd ho
    exact ⟨hb, A, _, c, by rw [hw]; rfl, rfl, by rw [← icl_zof]; exact ho, hs, Zs.of_rd (by rw [← icl_zof]; exact hr)⟩
theorem RLeastP.one {l : List Ev} {n : Int} {w w' : World} {r : Ending} (h : RLeastP l n w r w') : Below w.heap.size w w' ∧ ∃ A k c, r = .returned (.tuple #[.slice A k c, .int .i64 (wrongE l n : Nat)]) ∧ k = (lstN l n).length ∧ Zs w' w'.heap.size A (zof4 (lstN l n)) := by
  obtain ⟨hb, ⟨hw, rfl⟩ | ⟨hw, v, rfl, ho⟩⟩ := h
  · have e : lstN l n = [] := if_neg hw
    rw [e]
    exact ⟨hb, none, 0, 0, rfl, rfl, fun i hi => by simp [zof4] at hi⟩
  · have e : lstN l n = leastX l := if_pos hw
    rw [e, leastX_len]
    obtain ⟨A, c, rfl, hr, _, _⟩ := own_rd ho
    exact ⟨hb, A, _, c, by rw [hw]; rfl, rfl, Zs.of_rd (by rw [← icl_zof]; exact hr)⟩
theorem LevelsP.one {l : List Ev} {n : Int} {w w' : World} {r : Ending} (h : LevelsP l n w r w') : Below w.heap.size w w' ∧ ∃ A k c val, r = .returned (.tuple #[.slice A k c, .int .i64 (wrongE l n : Nat)]) ∧ k = lvN l n ∧ w'.ownsRow w.heap.size 23 1 (.slice A k c) k ((List.range k).map val) ∧ Fam w' w.heap.size k val (lrow l n.toNat) ∧ (∀ i, i < k → Spare (.int .i64 0) (lrow l n.toNat i).length (val i) w') ∧ RowsN w' w'.heap.size A k (lrow l n.toNat) := by
  obtain ⟨hb, ⟨hw, rfl⟩ | ⟨hw, v, val, rfl, ho, hF, hs⟩⟩ := h
  · have e : lvN l n = 0 := if_neg hw
    rw [e]
    exact ⟨hb, none, 0, 0, fun _ => .slice none 0 0, rfl, rfl, World.ownsRow_nil _ _ _ _, ⟨fun k hk => by omega, fun i j hi => by omega⟩, fun i hi => by omega, fun i hi => by omega⟩
  · have e : lvN l n = nlv l := if_pos hw
    rw [e]
    obtain ⟨A, c, rfl, _, hr⟩ := rowsN_of ho hF
    exact ⟨hb, A, _, c, val, by rw [hw]; rfl, rfl, ho, hF, hs, hr⟩
theorem rowsN_f {w : World} {B K : Nat} {v : Value} {vs : List Value} {f : Nat → List Nat} (ho : w.ownsRow B 23 1 v K vs) (hF : RowF w B vs f) : ∃ A c, v = .slice A K c ∧ RowsN w w.heap.size A K f := by
  have hl := ho.1
  obtain ⟨A, c, rfl, hr, _, hc⟩ := own_rd ho
  refine ⟨A, c, rfl, fun i hi => ?_⟩
  obtain ⟨v, e0, hv⟩ := hF i (by omega)
  obtain ⟨Ai, ci, e, hri, _⟩ := own_rd hv
  obtain ⟨b, o, e2, hb, hcell⟩ := hr i v e0
  exact ⟨b, o, Ai, ci, e2, hb, by rw [hcell, e], ints_icl hri⟩
theorem RLevelsP.one {l : List Ev} {n : Int} {w w' : World} {r : Ending} (h : RLevelsP l n w r w') : Below w.heap.size w w' ∧ ∃ A k c vs, r = .returned (.tuple #[.slice A k c, .int .i64 (wrongE l n : Nat)]) ∧ k = lvN l n ∧ w'.ownsRow w.heap.size 23 1 (.slice A k c) k vs ∧ RowF w' w.heap.size vs (lrow l n.toNat) ∧ RowsN w' w'.heap.size A k (lrow l n.toNat) := by
  obtain ⟨hb, ⟨hw, rfl⟩ | ⟨hw, v, vs, rfl, ho, hF⟩⟩ := h
  · have e : lvN l n = 0 := if_neg hw
    rw [e]
    exact ⟨hb, none, 0, 0, [], rfl, rfl, World.ownsRow_nil _ _ _ _, fun i hi => by simp at hi, fun i hi => by omega⟩
  · have e : lvN l n = nlv l := if_pos hw
    rw [e]
    obtain ⟨A, c, rfl, hr⟩ := rowsN_f ho hF
    exact ⟨hb, A, _, c, vs, by rw [hw]; rfl, rfl, ho, hF, hr⟩
theorem thrs_len (l : List Ev) (zs : List Int) : (thrs l zs).length = zs.length := by simp [thrs]
theorem SchedP.one {l : List Ev} {q : Nat} {zs : List Int} {w w' : World} {r : Ending} (h : SchedP l q zs w r w') : Below w.heap.size w w' ∧ ∃ A k c, r = .returned (.tuple #[.slice A k c, .int .i64 (scN q zs : Nat)]) ∧ k = (thrN l q zs).length ∧ w'.ownsRow w.heap.size 3 1 (.slice A k c) k (zcl (thrN l q zs)) ∧ Spare (.int .i64 0) k (.slice A k c) w' ∧ Zs w' w'.heap.size A (thrN l q zs) := by
  obtain ⟨hb, ⟨hw, rfl⟩ | ⟨hw, v, rfl, ho, hs⟩⟩ := h
  · have hn : ¬ schedOk q zs = true := by rw [hw]; decide
    have e : thrN l q zs = [] := if_neg hn
    have e2 : scN q zs = 2 := if_neg hn
    rw [e, e2]
    exact ⟨hb, none, 0, 0, rfl, rfl, World.ownsRow_nil _ _ _ _, Spare.nil _ _ _, fun i hi => by simp at hi⟩
  · have e : thrN l q zs = thrs l zs := if_pos hw
    have e2 : scN q zs = 0 := if_pos hw
    rw [e, e2, thrs_len]
    obtain ⟨A, c, rfl, hr, _, _⟩ := own_rd ho
    exact ⟨hb, A, _, c, rfl, rfl, ho, hs, Zs.of_rd hr⟩
theorem RSchedP.one {l : List Ev} {q : Nat} {zs : List Int} {w w' : World} {r : Ending} (h : RSchedP l q zs w r w') : Below w.heap.size w w' ∧ ∃ A k c, r = .returned (.tuple #[.slice A k c, .int .i64 (scN q zs : Nat)]) ∧ k = (thrN l q zs).length ∧ Zs w' w'.heap.size A (thrN l q zs) := by
  obtain ⟨hb, ⟨hw, rfl⟩ | ⟨hw, v, rfl, ho⟩⟩ := h
  · have hn : ¬ schedOk q zs = true := by rw [hw]; decide
    have e : thrN l q zs = [] := if_neg hn
    have e2 : scN q zs = 2 := if_neg hn
    rw [e, e2]
    exact ⟨hb, none, 0, 0, rfl, rfl, fun i hi => by simp at hi⟩
  · have e : thrN l q zs = thrs l zs := if_pos hw
    have e2 : scN q zs = 0 := if_pos hw
    rw [e, e2, thrs_len]
    obtain ⟨A, c, rfl, hr, _, _⟩ := own_rd ho
    exact ⟨hb, A, _, c, rfl, rfl, Zs.of_rd hr⟩
theorem zof4_len (o : List Nat) : (zof4 o).length = o.length := by simp [zof4]
theorem lvN_le {l : List Ev} {n : Int} {q : Nat} (hq : q = l.length) : lvN l n ≤ q := by
  unfold lvN
  split
  · have := nlvK_le l l.length; unfold nlv; omega
  · omega
theorem Zs.step {w w' : World} {A : Option Addr} {l : List Int} (h : Zs w w.heap.size A l) (hb : Below w.heap.size w w') : Zs w' w'.heap.size A l := (h.below hb).more hb.size
theorem RowsN.step {w w' : World} {A : Option Addr} {K : Nat} {f : Nat → List Nat} (h : RowsN w w.heap.size A K f) (hb : Below w.heap.size w w') : RowsN w' w'.heap.size A K f := (h.below hb).more hb.size
theorem row_le (l : List Ev) (n : Nat) (hl : l.length ≤ 1024) (hn : n ≤ 16) (k : Nat) : (lrow l n k).length ≤ 20000 := by
  have := lrowT_le hl k n
  rw [lrowT_full] at this
  omega
end Go.Proofs.Ytaalinhkikmfaaa
end

section
set_option linter.unusedSimpArgs false
set_option linter.unusedVariables false
namespace Go.Proofs.Ytaalinhkikmfaaa
open Go.RowKit

theorem Evs.go {w w' : World} {A : Option Addr} {l : List Ev} (h : Evs w w.heap.size A l) (hb : Below w.heap.size w w') : Evs w' w'.heap.size A l := (h.below hb).more hb.size
theorem spares_below {z : Value} {B K : Nat} {val : Nat → Value} {f : Nat → List Nat} {w w' : World} (h : ∀ i, i < K → Spare z (f i).length (val i) w) (hF : Fam w B K val f) (hb : Below w.heap.size w w') : ∀ i, i < K → Spare z (f i).length (val i) w' := fun i hi => spare_below (h i hi) (hF.own i hi) hb
theorem rowN_le {l : List Ev} {n : Int} {i : Nat} (h : i < lvN l n) : (lrow l n.toNat i).length ≤ 20000 := by
  unfold lvN at h
  split at h
  · rename_i hw
    obtain ⟨h1, h2, h3, _⟩ := wrong_ok hw
    exact row_le l n.toNat h3 (by omega) i
  · omega
theorem apart2 {v u : Value} {N : Nat} (hv : ∀ g, v.ownBlock = some g → g < N) (hu : ∀ g, u.ownBlock = some g → N ≤ g) : v.ownBlock = none ∨ v.ownBlock ≠ u.ownBlock := by
  cases h : v.ownBlock with
  | none => exact .inl rfl
  | some k =>
    refine .inr fun e => ?_
    have := hu k e.symm
    have := hv k h
    omega
theorem RowF.kept {w w' : World} {B : Nat} {vs : List Value} {f : Nat → List Nat} {row : Option Nat} (h : RowF w B vs f) (hg : w.grownBy w' row) (hne : ∀ i v, vs[i]? = some v → w.ownsRow B 3 1 v (f i).length (icl (f i)) → v.ownBlock = none ∨ v.ownBlock ≠ row) : RowF w' B vs f := fun i hi => by
  obtain ⟨v, e, hv⟩ := h i hi
  exact ⟨v, e, hv.kept hg (hne i v e hv)⟩
theorem below_grown {w0 w w' : World} {B : Nat} {u : Value} (h : Below B w0 w) (hB : B ≤ w.heap.size) (hg : w.grownBy w' u.ownBlock) (hu : ∀ g, u.ownBlock = some g → B ≤ g) : Below B w0 w' := h.grown hg hB hu
/-- rows of levels, those from c on not yet written over. -/
structure LoopT (w3 : World) (Br Bs K : Nat) (f : Nat → List Nat) (rv sv : Value) (val : Nat → Value) (svs : List Value) (c : Nat) (wr : World) : Prop where
  bel : Below w3.heap.size w3 wr
  rout : wr.ownsRow Br 23 1 rv K ((List.range K).map val)
  rows : ∀ k, c ≤ k → k < K → wr.ownsRow Br 3 1 (val k) (f k).length (icl (f k)) ∧ Spare (.int .i64 0) (f k).length (val k) wr
  sout : wr.ownsRow Bs 23 1 sv K svs
  srow : RowF wr Bs svs f
theorem LoopT.below {w3 wr w' : World} {Br Bs K c : Nat} {f : Nat → List Nat} {rv sv : Value} {val : Nat → Value} {svs : List Value} (h : LoopT w3 Br Bs K f rv sv val svs c wr) (hb : Below wr.heap.size wr w') : LoopT w3 Br Bs K f rv sv val svs c w' :=
  ⟨h.bel.trans (hb.mono h.bel.size), own_below h.rout hb, fun k h1 h2 => ⟨own_below (h.rows k h1 h2).1 hb, spare_below (h.rows k h1 h2).2 (h.rows k h1 h2).1 hb⟩, own_below h.sout hb, h.srow.below hb⟩
theorem LoopT.over {w3 wr w' : World} {Br Bs K c : Nat} {f : Nat → List Nat} {rv sv : Value} {val : Nat → Value} {svs : List Value} (h : LoopT w3 Br Bs K f rv sv val svs c wr) (hc : c < K) (hg : wr.grownBy w' (val c).ownBlock) (h3 : w3.heap.size ≤ Br)
    (hs : ∀ k, k < K → ∀ g, (val k).ownBlock = some g → g < Bs) (hne : ∀ i j, i < K → j < K → i ≠ j → (val i).ownBlock = none ∨ (val i).ownBlock ≠ (val j).ownBlock) : LoopT w3 Br Bs K f rv sv val svs (c + 1) w' := by
  have hrow := (h.rows c (Nat.le_refl _) hc).1
  refine ⟨h.bel.grown hg h.bel.size (fun k hk => Nat.le_trans h3 (hrow.lt k hk).1), h.rout.kept hg (own_ne h.rout hrow (by decide)), fun k h1 h2 => ?_, h.sout.kept hg (own_ne h.sout hrow (by decide)), fun i hi => ?_⟩
  · obtain ⟨a, b⟩ := h.rows k (by omega) h2
    have := hne k c h2 hc (by omega)
    exact ⟨a.kept hg this, b.kept hg this⟩
  · obtain ⟨v, e, hv⟩ := h.srow i hi
    exact ⟨v, e, hv.kept hg (apart hv (hs c hc))⟩
set_option maxRecDepth 100000 in
set_option maxHeartbeats 16000000 in
theorem normtells_walk (a b : List Ev) (q r : Nat) (hq : q = a.length) (hr : r = b.length) (zs : List Int) (m : Nat) (hm : m = zs.length) (A A' Ao : Option Addr) (c c' co : Nat) (n : Int) (w : World) (hA : Evs w w.heap.size A a) (hA0 : A = none → q = 0) (hq2 : q ≤ 140737488351232) (hA' : Evs w w.heap.size A' b) (hA0' : A' = none → r = 0) (hr2 : r ≤ 140737488351232) (hO : Zs w w.heap.size Ao zs) (hO0 : Ao = none → m = 0) (hm2 : m ≤ 140737488351232) (hqc : q ≤ c) (hrc : r ≤ c') :
    Calls Try.prog 3 #[.slice A q c, .slice A' r c', .int .i64 n, .slice Ao m co] w fun e w' => e = .returned (.bool true) ∧ Below w.heap.size w w' := by
  have HAo := Lib.hid hA; have HCo := Lib.hid hA'; have HOo := Lib.hid hO
  have HA_0 := Lib.hid hA; have HC_0 := Lib.hid hA'; have HO_0 := Lib.hid hO
  have HA0 := Lib.hid hA0; have HC0 := Lib.hid hA0'; have HO0 := Lib.hid hO0; have HQ := Lib.hid hq; have HR := Lib.hid hr; have HM := Lib.hid hm; have HQC := Lib.hid hqc; have HRC := Lib.hid hrc
  have HV1 := Lib.hid (heavy_any a q hq hq2 n A c w)
  have HV2 := Lib.hid (heavy_any b r hr hr2 n A' c' w)
  clear hA hA' hO hA0 hA0' hO0 hq hr hm hqc hrc
  go_enter Try.func3, Try.ntmps3
  go_wp2_with fail
  with_reducible refine HV1.out.mono ?_
  rintro e w' ⟨rfl, rfl | ⟨rfl, hq3, hq4⟩⟩
  · go_wp2_with fail
    go_ret
    exact ⟨rfl, Below.refl _ _⟩
  go_wp2_with fail
  with_reducible refine HV2.out.mono ?_
  rintro e w'' ⟨rfl, rfl | ⟨rfl, hr3, hr4⟩⟩
  · go_wp2_with fail
    go_ret
    exact ⟨rfl, Below.refl _ _⟩
  by_cases hm3 : 2000 < m
  · go_wp2_with fail
    go_ret
    exact ⟨rfl, Below.refl _ _⟩
  clear HV1 HV2 hq4 hr4 hq2 hr2 hm2
  obtain ⟨w, hwx⟩ : ∃ x, x = w'' := ⟨_, rfl⟩
  subst hwx
  have HB_0 : Hid (Below w.heap.size w w) := Lib.hid (Below.refl _ _)
  have HX := Lib.hid (lent_events a q HQ.out (by omega) A c w HA_0.out HA0.out)
  go_wp2_with fail
  with_reducible refine HX.out.mono ?_
  clear HX
  rintro e w1 ⟨g1, cu1, rfl, hg1, hx1, hy1, hb⟩
  have HA_1 := Lib.hid (HA_0.out.go hb)
  have HC_1 := Lib.hid (HC_0.out.go hb)
  have HO_1 := Lib.hid (HO_0.out.step hb)
  have HB_1 := Lib.hid (HB_0.out.trans (hb.mono HB_0.out.size))
  have HN1 : Hid (w.heap.size ≤ w1.heap.size) := Lib.hid hb.size
  clear HA_0 HC_0 HO_0 HB_0 hb
  have HX1 := Lib.hid hx1; have HY1 := Lib.hid hy1
  have HXE_1 : Hid (Evs w1 w1.heap.size (some ⟨g1, 0, none⟩) a) := Lib.hid (lent_evs ((lent_rd HQ.out hx1 hy1).more (lt_blk hx1)))
  clear hx1 hy1 hg1
  have HX := Lib.hid (lent_events b r HR.out (by omega) A' c' w1 HC_1.out HC0.out)
  go_wp2_with fail
  with_reducible refine HX.out.mono ?_
  clear HX
  rintro e w2 ⟨g2, cu2, rfl, hg2, hx2, hy2, hb⟩
  have HX1b := Lib.hid ((hb.block g1 (lt_blk HX1.out)).trans HX1.out)
  have HA_2 := Lib.hid (HA_1.out.go hb)
  have HC_2 := Lib.hid (HC_1.out.go hb)
  have HO_2 := Lib.hid (HO_1.out.step hb)
  have HB_2 := Lib.hid (HB_1.out.trans (hb.mono HB_1.out.size))
  have HXE_2 := Lib.hid (HXE_1.out.go hb)
  have HN2 : Hid (w1.heap.size ≤ w2.heap.size) := Lib.hid hb.size
  clear HA_1 HC_1 HO_1 HB_1 HXE_1 hb
  have HX2 := Lib.hid hx2; have HY2 := Lib.hid hy2
  have HYE_2 : Hid (Evs w2 w2.heap.size (some ⟨g2, 0, none⟩) b) := Lib.hid (lent_evs ((lent_rd HR.out hx2 hy2).more (lt_blk hx2)))
  clear hx2 hy2 hg2 HX1
  have HX := Lib.hid (lent_ints zs m HM.out (by omega) Ao co w2 HO_2.out)
  go_wp2_with fail
  with_reducible refine HX.out.mono ?_
  clear HX
  rintro e w3 ⟨g3, cu3, rfl, hg3, hx3, hy3, hb⟩
  have HX1c := Lib.hid ((hb.block g1 (lt_blk HX1b.out)).trans HX1b.out)
  have HX2c := Lib.hid ((hb.block g2 (lt_blk HX2.out)).trans HX2.out)
  have HA_3 := Lib.hid (HA_2.out.go hb)
  have HC_3 := Lib.hid (HC_2.out.go hb)
  have HO_3 := Lib.hid (HO_2.out.step hb)
  have HB_3 := Lib.hid (HB_2.out.trans (hb.mono HB_2.out.size))
  have HXE_3 := Lib.hid (HXE_2.out.go hb)
  have HYE_3 := Lib.hid (HYE_2.out.go hb)
  have HN3 : Hid (w2.heap.size ≤ w3.heap.size) := Lib.hid hb.size
  clear HA_2 HC_2 HO_2 HB_2 HXE_2 HYE_2 hb
  have HX3 := Lib.hid hx3; have HY3 := Lib.hid hy3
  have HZE_3 : Hid (Zs w3 w3.heap.size (some ⟨g3, 0, none⟩) zs) := Lib.hid (lent_zs ((lentZ_zs HM.out hx3 hy3).more (lt_blk hx3)))
  have HK_3 : Hid (Below w3.heap.size w3 w3) := Lib.hid (Below.refl _ _)
  have HB03 := Lib.hid HB_3.out
  clear hx3 hy3 hg3 HX1b HX2
  have HX := Lib.hid (least_any a q HQ.out (by omega) n (some ⟨g1, 0, none⟩) (q + 3) (by omega) w3 HXE_3.out)
  go_wp2_with fail
  with_reducible refine HX.out.mono ?_
  clear HX
  rintro e w4 h
  obtain ⟨hb, Ap, kp, cp, rfl, hkp, hop, hsp, hzp⟩ := h.one
  have HA_4 := Lib.hid (HA_3.out.go hb)
  have HC_4 := Lib.hid (HC_3.out.go hb)
  have HO_4 := Lib.hid (HO_3.out.step hb)
  have HB_4 := Lib.hid (HB_3.out.trans (hb.mono HB_3.out.size))
  have HXE_4 := Lib.hid (HXE_3.out.go hb)
  have HYE_4 := Lib.hid (HYE_3.out.go hb)
  have HZE_4 := Lib.hid (HZE_3.out.step hb)
  have HK_4 := Lib.hid (HK_3.out.trans (hb.mono HK_3.out.size))
  have HN4 : Hid (w3.heap.size ≤ w4.heap.size) := Lib.hid hb.size
  clear HA_3 HC_3 HO_3 HB_3 HXE_3 HYE_3 HZE_3 HK_3 hb
  have HPO_4 := Lib.hid hop; have HPS_4 := Lib.hid hsp; have HPZ_4 := Lib.hid hzp; have HKP := Lib.hid hkp
  have HPL : Hid (∀ g, (Value.slice Ap kp cp).ownBlock = some g → w3.heap.size ≤ g ∧ g < w4.heap.size) := Lib.hid fun g hg => hop.lt g hg
  clear hop hsp hzp hkp h
  have HX := Lib.hid (refleast_any a q HQ.out (by omega) n A c w4 HA_4.out)
  go_wp2_with fail
  with_reducible refine HX.out.mono ?_
  clear HX
  rintro e w5 h
  obtain ⟨hb, Aq, kq, cq, rfl, hkq, hzq⟩ := h.one
  rw [← HKP.out] at hkq
  subst hkq
  have HA_5 := Lib.hid (HA_4.out.go hb)
  have HC_5 := Lib.hid (HC_4.out.go hb)
  have HO_5 := Lib.hid (HO_4.out.step hb)
  have HB_5 := Lib.hid (HB_4.out.trans (hb.mono HB_4.out.size))
  have HXE_5 := Lib.hid (HXE_4.out.go hb)
  have HYE_5 := Lib.hid (HYE_4.out.go hb)
  have HZE_5 := Lib.hid (HZE_4.out.step hb)
  have HK_5 := Lib.hid (HK_4.out.trans (hb.mono HK_4.out.size))
  have HPS_5 := Lib.hid (spare_below HPS_4.out HPO_4.out hb)
  have HPO_5 := Lib.hid (own_below HPO_4.out hb)
  have HPZ_5 := Lib.hid (HPZ_4.out.step hb)
  have HN5 : Hid (w4.heap.size ≤ w5.heap.size) := Lib.hid hb.size
  clear HA_4 HC_4 HO_4 HB_4 HXE_4 HYE_4 HZE_4 HK_4 HPS_4 HPO_4 HPZ_4 hb
  have HQZ_5 := Lib.hid hzq
  clear hzq h
  have HX := Lib.hid (levels_any a q HQ.out (by omega) n (some ⟨g1, 0, none⟩) (q + 3) (by omega) w5 HXE_5.out)
  go_wp2_with fail
  with_reducible refine HX.out.mono ?_
  clear HX
  rintro e w6 h
  obtain ⟨hb, Ar, kr, cr, val, rfl, hkr, hro, hrf, hrs, hrn⟩ := h.one
  have HA_6 := Lib.hid (HA_5.out.go hb)
  have HC_6 := Lib.hid (HC_5.out.go hb)
  have HO_6 := Lib.hid (HO_5.out.step hb)
  have HB_6 := Lib.hid (HB_5.out.trans (hb.mono HB_5.out.size))
  have HXE_6 := Lib.hid (HXE_5.out.go hb)
  have HYE_6 := Lib.hid (HYE_5.out.go hb)
  have HZE_6 := Lib.hid (HZE_5.out.step hb)
  have HK_6 := Lib.hid (HK_5.out.trans (hb.mono HK_5.out.size))
  have HPS_6 := Lib.hid (spare_below HPS_5.out HPO_5.out hb)
  have HPO_6 := Lib.hid (own_below HPO_5.out hb)
  have HPZ_6 := Lib.hid (HPZ_5.out.step hb)
  have HQZ_6 := Lib.hid (HQZ_5.out.step hb)
  have HN6 : Hid (w5.heap.size ≤ w6.heap.size) := Lib.hid hb.size
  clear HA_5 HC_5 HO_5 HB_5 HXE_5 HYE_5 HZE_5 HK_5 HPS_5 HPO_5 HPZ_5 HQZ_5 hb
  have HRO_6 := Lib.hid hro; have HRF_6 := Lib.hid hrf; have HRS_6 := Lib.hid hrs; have HRN_6 := Lib.hid hrn; have HKR := Lib.hid hkr
  have HRL : Hid (∀ i, i < kr → ∀ g, (val i).ownBlock = some g → g < w6.heap.size) := Lib.hid fun i hi g hg => ((hrf.own i hi).lt g hg).2
  have HRW : Hid (∀ i j, i < kr → j < kr → i ≠ j → (val i).ownBlock = none ∨ (val i).ownBlock ≠ (val j).ownBlock) := Lib.hid hrf.ne
  clear hro hrf hrs hrn hkr h
  have HX := Lib.hid (reflevels_any a q HQ.out (by omega) n A c w6 HA_6.out)
  go_wp2_with fail
  with_reducible refine HX.out.mono ?_
  clear HX
  rintro e w7 h
  obtain ⟨hb, As, ks, cs, svs, rfl, hks, hso, hsf, hsn⟩ := h.one
  rw [← HKR.out] at hks
  subst hks
  have HA_7 := Lib.hid (HA_6.out.go hb)
  have HC_7 := Lib.hid (HC_6.out.go hb)
  have HO_7 := Lib.hid (HO_6.out.step hb)
  have HB_7 := Lib.hid (HB_6.out.trans (hb.mono HB_6.out.size))
  have HXE_7 := Lib.hid (HXE_6.out.go hb)
  have HYE_7 := Lib.hid (HYE_6.out.go hb)
  have HZE_7 := Lib.hid (HZE_6.out.step hb)
  have HK_7 := Lib.hid (HK_6.out.trans (hb.mono HK_6.out.size))
  have HPS_7 := Lib.hid (spare_below HPS_6.out HPO_6.out hb)
  have HPO_7 := Lib.hid (own_below HPO_6.out hb)
  have HPZ_7 := Lib.hid (HPZ_6.out.step hb)
  have HQZ_7 := Lib.hid (HQZ_6.out.step hb)
  have HRS_7 := Lib.hid (spares_below HRS_6.out HRF_6.out hb)
  have HRO_7 := Lib.hid (own_below HRO_6.out hb)
  have HRF_7 := Lib.hid (HRF_6.out.below hb)
  have HRN_7 := Lib.hid (HRN_6.out.step hb)
  have HN7 : Hid (w6.heap.size ≤ w7.heap.size) := Lib.hid hb.size
  clear HA_6 HC_6 HO_6 HB_6 HXE_6 HYE_6 HZE_6 HK_6 HPS_6 HPO_6 HPZ_6 HQZ_6 HRS_6 HRO_6 HRF_6 HRN_6 hb
  have HSL : Hid (∀ (i : Nat) (v : Value), svs[i]? = some v → ∀ g, v.ownBlock = some g → g < w7.heap.size) := Lib.hid fun i v hv g hg => by
    obtain ⟨v2, e2, ho2⟩ := hsf i (List.getElem?_eq_some_iff.1 hv).1
    rw [hv] at e2
    injection e2 with e2
    subst e2
    exact (ho2.lt g hg).2
  have HSO_7 := Lib.hid hso; have HSF_7 := Lib.hid hsf; have HSN_7 := Lib.hid hsn
  clear hso hsf hsn h
  have HX := Lib.hid (equiv_any a b q r HQ.out HR.out (by omega) (by omega) n (some ⟨g1, 0, none⟩) (some ⟨g2, 0, none⟩) (q + 3) (r + 3) (by omega) (by omega) w7 HXE_7.out HYE_7.out)
  go_wp2_with fail
  with_reducible refine HX.out.mono ?_
  clear HX
  rintro e w8 ⟨rfl, hb⟩
  have HA_8 := Lib.hid (HA_7.out.go hb)
  have HC_8 := Lib.hid (HC_7.out.go hb)
  have HO_8 := Lib.hid (HO_7.out.step hb)
  have HB_8 := Lib.hid (HB_7.out.trans (hb.mono HB_7.out.size))
  have HXE_8 := Lib.hid (HXE_7.out.go hb)
  have HYE_8 := Lib.hid (HYE_7.out.go hb)
  have HZE_8 := Lib.hid (HZE_7.out.step hb)
  have HK_8 := Lib.hid (HK_7.out.trans (hb.mono HK_7.out.size))
  have HPS_8 := Lib.hid (spare_below HPS_7.out HPO_7.out hb)
  have HPO_8 := Lib.hid (own_below HPO_7.out hb)
  have HPZ_8 := Lib.hid (HPZ_7.out.step hb)
  have HQZ_8 := Lib.hid (HQZ_7.out.step hb)
  have HRS_8 := Lib.hid (spares_below HRS_7.out HRF_7.out hb)
  have HRO_8 := Lib.hid (own_below HRO_7.out hb)
  have HRF_8 := Lib.hid (HRF_7.out.below hb)
  have HRN_8 := Lib.hid (HRN_7.out.step hb)
  have HSO_8 := Lib.hid (own_below HSO_7.out hb)
  have HSF_8 := Lib.hid (HSF_7.out.below hb)
  have HSN_8 := Lib.hid (HSN_7.out.step hb)
  have HN8 : Hid (w7.heap.size ≤ w8.heap.size) := Lib.hid hb.size
  clear HA_7 HC_7 HO_7 HB_7 HXE_7 HYE_7 HZE_7 HK_7 HPS_7 HPO_7 HPZ_7 HQZ_7 HRS_7 HRO_7 HRF_7 HRN_7 HSO_7 HSF_7 HSN_7 hb
  have HX := Lib.hid (refequiv_any a b q r HQ.out HR.out (by omega) (by omega) n A A' c c' HQC.out HRC.out w8 HA_8.out HC_8.out)
  go_wp2_with fail
  with_reducible refine HX.out.mono ?_
  clear HX
  rintro e w9 ⟨rfl, hb⟩
  have HA_9 := Lib.hid (HA_8.out.go hb)
  have HC_9 := Lib.hid (HC_8.out.go hb)
  have HO_9 := Lib.hid (HO_8.out.step hb)
  have HB_9 := Lib.hid (HB_8.out.trans (hb.mono HB_8.out.size))
  have HXE_9 := Lib.hid (HXE_8.out.go hb)
  have HYE_9 := Lib.hid (HYE_8.out.go hb)
  have HZE_9 := Lib.hid (HZE_8.out.step hb)
  have HK_9 := Lib.hid (HK_8.out.trans (hb.mono HK_8.out.size))
  have HPS_9 := Lib.hid (spare_below HPS_8.out HPO_8.out hb)
  have HPO_9 := Lib.hid (own_below HPO_8.out hb)
  have HPZ_9 := Lib.hid (HPZ_8.out.step hb)
  have HQZ_9 := Lib.hid (HQZ_8.out.step hb)
  have HRS_9 := Lib.hid (spares_below HRS_8.out HRF_8.out hb)
  have HRO_9 := Lib.hid (own_below HRO_8.out hb)
  have HRF_9 := Lib.hid (HRF_8.out.below hb)
  have HRN_9 := Lib.hid (HRN_8.out.step hb)
  have HSO_9 := Lib.hid (own_below HSO_8.out hb)
  have HSF_9 := Lib.hid (HSF_8.out.below hb)
  have HSN_9 := Lib.hid (HSN_8.out.step hb)
  have HN9 : Hid (w8.heap.size ≤ w9.heap.size) := Lib.hid hb.size
  clear HA_8 HC_8 HO_8 HB_8 HXE_8 HYE_8 HZE_8 HK_8 HPS_8 HPO_8 HPZ_8 HQZ_8 HRS_8 HRO_8 HRF_8 HRN_8 HSO_8 HSF_8 HSN_8 hb
  have HX := Lib.hid (schedule_any a q HQ.out (by omega) (some ⟨g1, 0, none⟩) (q + 3) zs m HM.out (by omega) (some ⟨g3, 0, none⟩) (m + 3) w9.heap.size w9 HXE_9.out HZE_9.out (Nat.le_refl _))
  go_wp2_with fail
  with_reducible refine HX.out.mono ?_
  clear HX
  rintro e w10 h
  obtain ⟨hb, Av, kv, cv, rfl, hkv, hvo, hvs, hvz⟩ := h.one
  have HA_10 := Lib.hid (HA_9.out.go hb)
  have HC_10 := Lib.hid (HC_9.out.go hb)
  have HO_10 := Lib.hid (HO_9.out.step hb)
  have HB_10 := Lib.hid (HB_9.out.trans (hb.mono HB_9.out.size))
  have HXE_10 := Lib.hid (HXE_9.out.go hb)
  have HYE_10 := Lib.hid (HYE_9.out.go hb)
  have HZE_10 := Lib.hid (HZE_9.out.step hb)
  have HK_10 := Lib.hid (HK_9.out.trans (hb.mono HK_9.out.size))
  have HPS_10 := Lib.hid (spare_below HPS_9.out HPO_9.out hb)
  have HPO_10 := Lib.hid (own_below HPO_9.out hb)
  have HPZ_10 := Lib.hid (HPZ_9.out.step hb)
  have HQZ_10 := Lib.hid (HQZ_9.out.step hb)
  have HRS_10 := Lib.hid (spares_below HRS_9.out HRF_9.out hb)
  have HRO_10 := Lib.hid (own_below HRO_9.out hb)
  have HRF_10 := Lib.hid (HRF_9.out.below hb)
  have HRN_10 := Lib.hid (HRN_9.out.step hb)
  have HSO_10 := Lib.hid (own_below HSO_9.out hb)
  have HSF_10 := Lib.hid (HSF_9.out.below hb)
  have HSN_10 := Lib.hid (HSN_9.out.step hb)
  have HN10 : Hid (w9.heap.size ≤ w10.heap.size) := Lib.hid hb.size
  clear HA_9 HC_9 HO_9 HB_9 HXE_9 HYE_9 HZE_9 HK_9 HPS_9 HPO_9 HPZ_9 HQZ_9 HRS_9 HRO_9 HRF_9 HRN_9 HSO_9 HSF_9 HSN_9 hb
  have HVO_10 := Lib.hid hvo; have HVS_10 := Lib.hid hvs; have HVZ_10 := Lib.hid hvz; have HKV := Lib.hid hkv
  have HVL : Hid (∀ g, (Value.slice Av kv cv).ownBlock = some g → w9.heap.size ≤ g) := Lib.hid fun g hg => (hvo.lt g hg).1
  clear hvo hvs hvz hkv h
  have HX := Lib.hid (refsched_any a q HQ.out (by omega) A c zs m HM.out (by omega) Ao co w10.heap.size w10 HA_10.out HO_10.out (Nat.le_refl _))
  go_wp2_with fail
  with_reducible refine HX.out.mono ?_
  clear HX
  rintro e w11 h
  obtain ⟨hb, Aw, kw, cw, rfl, hkw, hwz⟩ := h.one
  rw [← HKV.out] at hkw
  subst hkw
  have HA_11 := Lib.hid (HA_10.out.go hb)
  have HC_11 := Lib.hid (HC_10.out.go hb)
  have HO_11 := Lib.hid (HO_10.out.step hb)
  have HB_11 := Lib.hid (HB_10.out.trans (hb.mono HB_10.out.size))
  have HXE_11 := Lib.hid (HXE_10.out.go hb)
  have HYE_11 := Lib.hid (HYE_10.out.go hb)
  have HZE_11 := Lib.hid (HZE_10.out.step hb)
  have HK_11 := Lib.hid (HK_10.out.trans (hb.mono HK_10.out.size))
  have HPS_11 := Lib.hid (spare_below HPS_10.out HPO_10.out hb)
  have HPO_11 := Lib.hid (own_below HPO_10.out hb)
  have HPZ_11 := Lib.hid (HPZ_10.out.step hb)
  have HQZ_11 := Lib.hid (HQZ_10.out.step hb)
  have HRS_11 := Lib.hid (spares_below HRS_10.out HRF_10.out hb)
  have HRO_11 := Lib.hid (own_below HRO_10.out hb)
  have HRF_11 := Lib.hid (HRF_10.out.below hb)
  have HRN_11 := Lib.hid (HRN_10.out.step hb)
  have HSO_11 := Lib.hid (own_below HSO_10.out hb)
  have HSF_11 := Lib.hid (HSF_10.out.below hb)
  have HSN_11 := Lib.hid (HSN_10.out.step hb)
  have HVS_11 := Lib.hid (spare_below HVS_10.out HVO_10.out hb)
  have HVO_11 := Lib.hid (own_below HVO_10.out hb)
  have HVZ_11 := Lib.hid (HVZ_10.out.step hb)
  have HN11 : Hid (w10.heap.size ≤ w11.heap.size) := Lib.hid hb.size
  clear HA_10 HC_10 HO_10 HB_10 HXE_10 HYE_10 HZE_10 HK_10 HPS_10 HPO_10 HPZ_10 HQZ_10 HRS_10 HRO_10 HRF_10 HRN_10 HSO_10 HSF_10 HSN_10 HVS_10 HVO_10 HVZ_10 hb
  have HWZ_11 := Lib.hid hwz
  clear hwz h
  have hkp : kq ≤ 1029 := by have := lstN_le (l := a) (n := n) HQ.out; rw [HKP.out]; omega
  have hkr : ks ≤ 1029 := by have := lvN_le (l := a) (n := n) HQ.out; rw [HKR.out]; omega
  have hkv : kw ≤ 2000 := by rw [HKV.out]; unfold thrN; split <;> simp [thrs_len, ← HM.out] <;> omega
  have HRL2 : Hid (∀ i, i < ks → (lrow a n.toNat i).length ≤ 20000) := Lib.hid fun i hi => rowN_le (by rw [← HKR.out]; exact hi)
  obtain ⟨we, hwe⟩ : ∃ x, x = wrongE a n := ⟨_, rfl⟩
  obtain ⟨ta, hta⟩ : ∃ x, x = eqAns a b n := ⟨_, rfl⟩
  obtain ⟨te, hte⟩ : ∃ x, x = eqCode a b n := ⟨_, rfl⟩
  obtain ⟨sc, hsc⟩ : ∃ x, x = scN q zs := ⟨_, rfl⟩
  rw [← hwe, ← hta, ← hte, ← hsc]
  have d0 : ((we : Int) != (we : Int)) = false := by simp
  have d1 : ((te : Int) != (te : Int)) = false := by simp
  have d2 : ((sc : Int) != (sc : Int)) = false := by simp
  have d3 : (ta != ta) = false := by simp
  clear hwe hta hte hsc
  have HX := Lib.hid (zs_yes (zof4 (lstN a n)) kq (by rw [zof4_len]; exact HKP.out) (by omega) Ap Aq cp cq w11.heap.size w11 HPZ_11.out HQZ_11.out (Nat.le_refl _))
  go_wp2_with fail
  with_reducible refine HX.out.mono ?_
  clear HX
  rintro e w12 ⟨rfl, hb⟩
  have HA_12 := Lib.hid (HA_11.out.go hb)
  have HC_12 := Lib.hid (HC_11.out.go hb)
  have HO_12 := Lib.hid (HO_11.out.step hb)
  have HB_12 := Lib.hid (HB_11.out.trans (hb.mono HB_11.out.size))
  have HXE_12 := Lib.hid (HXE_11.out.go hb)
  have HYE_12 := Lib.hid (HYE_11.out.go hb)
  have HZE_12 := Lib.hid (HZE_11.out.step hb)
  have HK_12 := Lib.hid (HK_11.out.trans (hb.mono HK_11.out.size))
  have HPS_12 := Lib.hid (spare_below HPS_11.out HPO_11.out hb)
  have HPO_12 := Lib.hid (own_below HPO_11.out hb)
  have HPZ_12 := Lib.hid (HPZ_11.out.step hb)
  have HQZ_12 := Lib.hid (HQZ_11.out.step hb)
  have HRS_12 := Lib.hid (spares_below HRS_11.out HRF_11.out hb)
  have HRO_12 := Lib.hid (own_below HRO_11.out hb)
  have HRF_12 := Lib.hid (HRF_11.out.below hb)
  have HRN_12 := Lib.hid (HRN_11.out.step hb)
  have HSO_12 := Lib.hid (own_below HSO_11.out hb)
  have HSF_12 := Lib.hid (HSF_11.out.below hb)
  have HSN_12 := Lib.hid (HSN_11.out.step hb)
  have HVS_12 := Lib.hid (spare_below HVS_11.out HVO_11.out hb)
  have HVO_12 := Lib.hid (own_below HVO_11.out hb)
  have HVZ_12 := Lib.hid (HVZ_11.out.step hb)
  have HWZ_12 := Lib.hid (HWZ_11.out.step hb)
  have HN12 : Hid (w11.heap.size ≤ w12.heap.size) := Lib.hid hb.size
  clear HA_11 HC_11 HO_11 HB_11 HXE_11 HYE_11 HZE_11 HK_11 HPS_11 HPO_11 HPZ_11 HQZ_11 HRS_11 HRO_11 HRF_11 HRN_11 HSO_11 HSF_11 HSN_11 HVS_11 HVO_11 HVZ_11 HWZ_11 hb
  have HX := Lib.hid (same_rowsN ks (by omega) (lrow a n.toNat) (fun i hi => by have := HRL2.out i hi; omega) Ar As cr cs w12.heap.size w12 HRN_12.out HSN_12.out (Nat.le_refl _))
  go_wp2_with fail
  with_reducible refine HX.out.mono ?_
  clear HX
  rintro e w13 ⟨rfl, hb⟩
  have HA_13 := Lib.hid (HA_12.out.go hb)
  have HC_13 := Lib.hid (HC_12.out.go hb)
  have HO_13 := Lib.hid (HO_12.out.step hb)
  have HB_13 := Lib.hid (HB_12.out.trans (hb.mono HB_12.out.size))
  have HXE_13 := Lib.hid (HXE_12.out.go hb)
  have HYE_13 := Lib.hid (HYE_12.out.go hb)
  have HZE_13 := Lib.hid (HZE_12.out.step hb)
  have HK_13 := Lib.hid (HK_12.out.trans (hb.mono HK_12.out.size))
  have HPS_13 := Lib.hid (spare_below HPS_12.out HPO_12.out hb)
  have HPO_13 := Lib.hid (own_below HPO_12.out hb)
  have HPZ_13 := Lib.hid (HPZ_12.out.step hb)
  have HQZ_13 := Lib.hid (HQZ_12.out.step hb)
  have HRS_13 := Lib.hid (spares_below HRS_12.out HRF_12.out hb)
  have HRO_13 := Lib.hid (own_below HRO_12.out hb)
  have HRF_13 := Lib.hid (HRF_12.out.below hb)
  have HRN_13 := Lib.hid (HRN_12.out.step hb)
  have HSO_13 := Lib.hid (own_below HSO_12.out hb)
  have HSF_13 := Lib.hid (HSF_12.out.below hb)
  have HSN_13 := Lib.hid (HSN_12.out.step hb)
  have HVS_13 := Lib.hid (spare_below HVS_12.out HVO_12.out hb)
  have HVO_13 := Lib.hid (own_below HVO_12.out hb)
  have HVZ_13 := Lib.hid (HVZ_12.out.step hb)
  have HWZ_13 := Lib.hid (HWZ_12.out.step hb)
  have HN13 : Hid (w12.heap.size ≤ w13.heap.size) := Lib.hid hb.size
  clear HA_12 HC_12 HO_12 HB_12 HXE_12 HYE_12 HZE_12 HK_12 HPS_12 HPO_12 HPZ_12 HQZ_12 HRS_12 HRO_12 HRF_12 HRN_12 HSO_12 HSF_12 HSN_12 HVS_12 HVO_12 HVZ_12 HWZ_12 hb
  have HX := Lib.hid (zs_yes (thrN a q zs) kw HKV.out (by omega) Av Aw cv cw w13.heap.size w13 HVZ_13.out HWZ_13.out (Nat.le_refl _))
  go_wp2_with fail
  with_reducible refine HX.out.mono ?_
  clear HX
  rintro e w14 ⟨rfl, hb⟩
  have HA_14 := Lib.hid (HA_13.out.go hb)
  have HC_14 := Lib.hid (HC_13.out.go hb)
  have HO_14 := Lib.hid (HO_13.out.step hb)
  have HB_14 := Lib.hid (HB_13.out.trans (hb.mono HB_13.out.size))
  have HXE_14 := Lib.hid (HXE_13.out.go hb)
  have HYE_14 := Lib.hid (HYE_13.out.go hb)
  have HZE_14 := Lib.hid (HZE_13.out.step hb)
  have HK_14 := Lib.hid (HK_13.out.trans (hb.mono HK_13.out.size))
  have HPS_14 := Lib.hid (spare_below HPS_13.out HPO_13.out hb)
  have HPO_14 := Lib.hid (own_below HPO_13.out hb)
  have HPZ_14 := Lib.hid (HPZ_13.out.step hb)
  have HQZ_14 := Lib.hid (HQZ_13.out.step hb)
  have HRS_14 := Lib.hid (spares_below HRS_13.out HRF_13.out hb)
  have HRO_14 := Lib.hid (own_below HRO_13.out hb)
  have HRF_14 := Lib.hid (HRF_13.out.below hb)
  have HRN_14 := Lib.hid (HRN_13.out.step hb)
  have HSO_14 := Lib.hid (own_below HSO_13.out hb)
  have HSF_14 := Lib.hid (HSF_13.out.below hb)
  have HSN_14 := Lib.hid (HSN_13.out.step hb)
  have HVS_14 := Lib.hid (spare_below HVS_13.out HVO_13.out hb)
  have HVO_14 := Lib.hid (own_below HVO_13.out hb)
  have HVZ_14 := Lib.hid (HVZ_13.out.step hb)
  have HWZ_14 := Lib.hid (HWZ_13.out.step hb)
  have HN14 : Hid (w13.heap.size ≤ w14.heap.size) := Lib.hid hb.size
  clear HA_13 HC_13 HO_13 HB_13 HXE_13 HYE_13 HZE_13 HK_13 HPS_13 HPO_13 HPZ_13 HQZ_13 HRS_13 HRO_13 HRF_13 HRN_13 HSO_13 HSF_13 HSN_13 HVS_13 HVO_13 HVZ_13 HWZ_13 hb
  clear d0 d1 d2 d3 HPZ_14 HQZ_14 HRN_14 HSN_14 HVZ_14 HWZ_14
  clear HA_14 HC_14 HO_14 HXE_14 HYE_14 HZE_14
  have HOP := Lib.hid (overI_at HPO_14.out HPS_14.out)
  go_wp2_with fail
  with_reducible refine HOP.out.mono ?_
  rintro e w15 ⟨rfl, hg⟩
  have hN : w4.heap.size ≤ w5.heap.size ∧ w5.heap.size ≤ w6.heap.size ∧ w6.heap.size ≤ w7.heap.size ∧ w7.heap.size ≤ w9.heap.size ∧ w.heap.size ≤ w3.heap.size := by
    have := HN5.out; have := HN6.out; have := HN7.out; have := HN8.out; have := HN9.out; have := HN1.out; have := HN2.out; have := HN3.out
    omega
  have HN := Lib.hid hN
  clear hN
  have HB_15 : Hid (Below w.heap.size w w15) := Lib.hid (HB_14.out.grown hg HB_14.out.size fun k hk => by have := (HPL.out k hk).1; have := HN.out; omega)
  have HK_15 : Hid (Below w3.heap.size w3 w15) := Lib.hid (HK_14.out.grown hg HK_14.out.size fun k hk => (HPL.out k hk).1)
  have HRO_15 := Lib.hid (HRO_14.out.kept hg (own_ne HRO_14.out HPO_14.out (by decide)))
  have HSO_15 := Lib.hid (HSO_14.out.kept hg (own_ne HSO_14.out HPO_14.out (by decide)))
  have HRF_15 := Lib.hid (HRF_14.out.kept hg fun k hk => apart (HRF_14.out.own k hk) fun g h => by have := (HPL.out g h).2; have := HN.out; omega)
  have HRS_15 := Lib.hid (fun i (hi : i < ks) => (HRS_14.out i hi).kept hg (apart (HRF_14.out.own i hi) fun g h => by have := (HPL.out g h).2; have := HN.out; omega))
  have HSF_15 := Lib.hid (HSF_14.out.kept hg fun i v _ hv => apart hv fun g h => by have := (HPL.out g h).2; have := HN.out; omega)
  have hvp := apart HVO_14.out (u := .slice Ap kq cp) fun g h => by have := (HPL.out g h).2; have := HN.out; omega
  have HVO_15 := Lib.hid (HVO_14.out.kept hg hvp)
  have HVS_15 := Lib.hid (HVS_14.out.kept hg hvp)
  clear hg hvp HOP HPO_14 HPS_14 HB_14 HK_14 HRO_14 HSO_14 HRF_14 HRS_14 HSF_14 HVO_14 HVS_14
  have HOP := Lib.hid (overI_at HVO_15.out HVS_15.out)
  go_wp2_with fail
  with_reducible refine HOP.out.mono ?_
  rintro e w16 ⟨rfl, hg⟩
  have HB_16 : Hid (Below w.heap.size w w16) := Lib.hid (HB_15.out.grown hg HB_15.out.size fun k hk => by have := HVL.out k hk; have := HN.out; have := HN4.out; omega)
  have HK_16 : Hid (Below w3.heap.size w3 w16) := Lib.hid (HK_15.out.grown hg HK_15.out.size fun k hk => by have := HVL.out k hk; have := HN.out; have := HN4.out; omega)
  have HRO_16 := Lib.hid (HRO_15.out.kept hg (own_ne HRO_15.out HVO_15.out (by decide)))
  have HSO_16 := Lib.hid (HSO_15.out.kept hg (own_ne HSO_15.out HVO_15.out (by decide)))
  have HRF_16 := Lib.hid (HRF_15.out.kept hg fun k hk => apart2 (HRL.out k hk) fun g h => by have := HVL.out g h; have := HN.out; omega)
  have HRS_16 := Lib.hid (fun i (hi : i < ks) => (HRS_15.out i hi).kept hg (apart2 (HRL.out i hi) fun g h => by have := HVL.out g h; have := HN.out; omega))
  have HSF_16 := Lib.hid (HSF_15.out.kept hg fun i v hi hv => apart2 (HSL.out i v hi) fun g h => by have := HVL.out g h; have := HN.out; omega)
  clear hg HOP HVO_15 HVS_15 HB_15 HK_15 HRO_15 HSO_15 HRF_15 HRS_15 HSF_15
  have HL0 : Hid (LoopT w3 w5.heap.size w6.heap.size ks (lrow a n.toNat) (.slice Ar ks cr) (.slice As ks cs) val svs 0 w16) := Lib.hid ⟨HK_16.out, HRO_16.out, fun k _ hk => ⟨HRF_16.out.own k hk, HRS_16.out k hk⟩, HSO_16.out, HSF_16.out⟩
  have HBW3 : Hid (w3.heap.size ≤ w5.heap.size) := Lib.hid (by have := HN.out; have := HN4.out; omega)
  clear HRO_16 HSO_16 HRF_16 HRS_16 HSF_16
  go_wp2_with fail
  go_loopw [28] (fun cv wr => ∃ t : Nat, t ≤ ks ∧ cv = .int .i64 (t : Nat) ∧ LoopT w3 w5.heap.size w6.heap.size ks (lrow a n.toNat) (.slice Ar ks cr) (.slice As ks cs) val svs t wr) (fun cv _ => ks - (intOf cv).toNat)
  case atStart => exact ⟨0, by omega, by go_num, HL0.out⟩
  case round =>
    obtain ⟨t, ht, rfl, hlt⟩ := hrel
    have HLT := Lib.hid hlt
    clear hlt HL0
    by_cases hgo : t < ks ∧ t < 12
    · obtain ⟨hg1, hg2⟩ := hgo
      obtain ⟨hrow, hsp⟩ := HLT.out.rows t (Nat.le_refl _) hg1
      rw [icl_zof] at hrow
      have HOV := Lib.hid (overI_at hrow hsp)
      obtain ⟨_, _, e, hrd, _⟩ := own_rd HLT.out.rout
      injection e with e1 _ e2
      subst e1 e2
      obtain ⟨br, fr, rfl, hbr, er⟩ := hrd t (val t) (by simp [hg1])
      clear hrow hsp hrd
      go_wp2_with fail
      with_reducible refine HOV.out.mono ?_
      rintro e w17 ⟨rfl, hg⟩
      have HLT2 := Lib.hid (HLT.out.over hg1 hg HBW3.out HRL.out HRW.out)
      clear hg HOV er HLT
      by_cases hnx : t + 1 < ks
      · obtain ⟨hrow, _⟩ := HLT2.out.rows (t + 1) (Nat.le_refl _) hnx
        obtain ⟨v2, e3, hv2⟩ := HLT2.out.srow (t + 1) (by have := HLT2.out.sout.1; omega)
        rw [icl_zof] at hrow hv2
        have HLR := Lib.hid (HRL2.out (t + 1) hnx)
        obtain ⟨kx, hkx⟩ : ∃ x, x = (lrow a n.toNat (t + 1)).length := ⟨_, rfl⟩
        rw [← hkx] at hrow hv2 HLR
        obtain ⟨A1, c1, e4, hr1, _⟩ := own_rd hrow
        obtain ⟨A2, c2, rfl, hr2, _⟩ := own_rd hv2
        obtain ⟨_, _, e, hrd, _⟩ := own_rd HLT2.out.rout
        injection e with e1 _ e2
        subst e2
        obtain ⟨_, _, e, _, er⟩ := hrd (t + 1) (val (t + 1)) (by simp [hnx])
        rw [← e1] at e
        injection e with e; injection e with e5 e6; subst e5 e6
        clear e1
        obtain ⟨_, _, e, hsd, _⟩ := own_rd HLT2.out.sout
        injection e with e1 _ e2
        subst e1 e2
        obtain ⟨bs, fs, rfl, hbs, es⟩ := hsd (t + 1) _ e3
        rw [e4] at er
        have hbr2 : br < w17.heap.size := World.block_lt_of_cell? _ _ er
        have T : Hid (∀ W, Below w17.heap.size w17 W → W.cell? ⟨br, fr + (t + 1), none⟩ = some (.slice A1 kx c1) ∧ W.cell? ⟨bs, fs + (t + 1), none⟩ = some (.slice A2 kx c2)) := Lib.hid (fun W hW => ⟨(hW.cell (p := ⟨br, fr + (t + 1), none⟩) hbr2).trans er, (hW.cell (p := ⟨bs, fs + (t + 1), none⟩) hbs).trans es⟩)
        have S : Hid (∀ W, Below w17.heap.size w17 W → Calls Try.prog 18 #[.slice A1 kx c1, .slice A2 kx c2] W fun e w' => ∃ v, e = .returned v ∧ Below W.heap.size W w' ∧ ttHolds (.inl (.bool true)) v w') := Lib.hid (fun W hW =>
          (zs_yes (zof4 (lrow a n.toNat (t + 1))) kx (by rw [zof4_len]; exact hkx) (by have := HLR.out; omega) A1 A2 c1 c2 W.heap.size W ((Zs.step (Zs.of_rd hr1) hW)) ((Zs.step (Zs.of_rd hr2) hW)) (Nat.le_refl _)).mono fun e W' ⟨h1, h2⟩ => ⟨_, h1, h2, rfl⟩)
        clear hrow hv2 hr1 hr2 hrd hsd er es e3 e4 hkx
        have g1 : (0 : Int) ≤ (t : Int) + 1 := by omega
        have g2 : (t : Int) + 1 < ks := by omega
        have g3 : IntKind.i64.wrap ((t : Int) + 1) = (t : Int) + 1 := wi64 _ (by omega) (by omega)
        go_upto_region 20 with (fail)
        apply wp_region_relH (H := []) 19 [(Sum.inl _ : TT), (Sum.inl _ : TT), (Sum.inl _ : TT), (Sum.inl _ : TT), (Sum.inl _ : TT), (Sum.inl _ : TT), (Sum.inl _ : TT), (Sum.inl _ : TT), (Sum.inl _ : TT), (Sum.inl _ : TT), (Sum.inl _ : TT), (Sum.inl _ : TT), (Sum.inl _ : TT), (Sum.inl _ : TT), (Sum.inl _ : TT), (Sum.inl _ : TT), (Sum.inl _ : TT), (Sum.inl _ : TT), (Sum.inl _ : TT)] (by kernel_rfl) (by kernel_rfl) (fun _ _ _ _ _ h => h) rfl
        simp only [List.take_succ_cons, List.take_zero, List.drop_succ_cons, List.drop_zero]
        iterate 16 (apply rel_isS; (intro W hW hf; obtain ⟨hx1, hx2⟩ := T.out W hW; go_simp; first | exact ⟨StayS.refl _ _, rfl⟩ | rfl); simp only [Act.put, List.setIfInBounds_toArray, List.set_cons_succ, List.set_cons_zero])
        apply rel_isS
        · intro W hW hf
          exact rel_callS hW (by first | rfl | (go_simp; done) | (go_simp; simp)) (by go_simp <;> first | rfl | exact ⟨rfl, rfl⟩ | exact ⟨rfl, rfl, rfl⟩) (S.out W hW)
        simp only [Act.put, List.setIfInBounds_toArray, List.set_cons_succ, List.set_cons_zero]
        iterate 2 (apply rel_isS; (intro W hW hf; go_simp; first | exact ⟨StayS.refl _ _, rfl⟩ | rfl); simp only [Act.put, List.setIfInBounds_toArray, List.set_cons_succ, List.set_cons_zero])
        refine rel_endS ?_
        intro W hW hf
        try simp only [Act.put, List.setIfInBounds_toArray, List.set_cons_succ, List.set_cons_zero]
        have HLW := Lib.hid (HLT2.out.below hW)
        clear hW hf T S
        go_wp2_with fail
        go_roundw
        case rel => exact ⟨t + 1, by omega, by go_num, HLW.out⟩
        case measure => simp [intOf]; omega
      · obtain rfl : ks = t + 1 := by omega
        have g3 : IntKind.i64.wrap ((t : Int) + 1) = (t : Int) + 1 := wi64 _ (by omega) (by omega)
        go_upto_region 20 with (fail)
        apply wp_region_relH (H := []) 19 [(Sum.inl _ : TT), (Sum.inl _ : TT), (Sum.inl _ : TT), (Sum.inl _ : TT), (Sum.inl _ : TT), (Sum.inl _ : TT), (Sum.inl _ : TT), (Sum.inl _ : TT), (Sum.inl _ : TT), (Sum.inl _ : TT), (Sum.inl _ : TT), (Sum.inl _ : TT), (Sum.inl _ : TT), (Sum.inl _ : TT), (Sum.inl _ : TT), (Sum.inl _ : TT), (Sum.inl _ : TT), (Sum.inl _ : TT), (Sum.inl _ : TT)] (by kernel_rfl) (by kernel_rfl) (fun _ _ _ _ _ h => h) rfl
        simp only [List.take_succ_cons, List.take_zero, List.drop_succ_cons, List.drop_zero]
        iterate 19 (apply rel_isS; (intro W hW hf; go_simp; first | exact ⟨StayS.refl _ _, rfl⟩ | rfl); simp only [Act.put, List.setIfInBounds_toArray, List.set_cons_succ, List.set_cons_zero])
        refine rel_endS ?_
        intro W hW hf
        try simp only [Act.put, List.setIfInBounds_toArray, List.set_cons_succ, List.set_cons_zero]
        have HLW := Lib.hid (HLT2.out.below hW)
        clear hW hf
        go_wp2_with fail
        go_roundw
        case rel => exact ⟨t + 1, by omega, by go_num, HLW.out⟩
        case measure => simp [intOf] <;> omega
    · have HBK := Lib.hid HLT.out.bel
      have h03 : w.heap.size ≤ w3.heap.size := by have := HN.out; omega
      have HBT : Hid (Below w.heap.size w w3 → Below w.heap.size w wr) := Lib.hid fun h => h.trans (HBK.out.mono h03)
      have HG1 := Lib.hid ((HBK.out.block g1 (lt_blk HX1c.out)).trans HX1c.out)
      have HG2 := Lib.hid ((HBK.out.block g2 (lt_blk HX2c.out)).trans HX2c.out)
      have HG3 := Lib.hid ((HBK.out.block g3 (lt_blk HX3.out)).trans HX3.out)
      have HB := Lib.hid (HBT.out HB03.out)
      clear HLT
      have HKE := Lib.hid (kept_events a q HQ.out (by omega) A c g1 cu1 wr ((HAo.out.below HB.out).more HB.out.size) HA0.out HG1.out HY1.out)
      by_cases hks : t < ks
      · have h12 : ¬ t < 12 := fun h => hgo ⟨hks, h⟩
        clear hgo
        go_wp2_with fail
        with_reducible refine HKE.out.mono ?_
        rintro e w18 ⟨rfl, hb18⟩
        have HB18 := Lib.hid (HB.out.trans (hb18.mono HB.out.size))
        have HKF := Lib.hid (kept_events b r HR.out (by omega) A' c' g2 cu2 w18 ((HCo.out.below HB18.out).more HB18.out.size) HC0.out ((hb18.block g2 (lt_blk HG2.out)).trans HG2.out) HY2.out)
        have HG4 := Lib.hid ((hb18.block g3 (lt_blk HG3.out)).trans HG3.out)
        clear hb18 HKE
        go_wp2_with fail
        with_reducible refine HKF.out.mono ?_
        rintro e w19 ⟨rfl, hb19⟩
        have HB19 := Lib.hid (HB18.out.trans (hb19.mono HB18.out.size))
        have HKG := Lib.hid (kept_ints zs m HM.out (by omega) Ao co g3 cu3 w19 ((HOo.out.below HB19.out).more HB19.out.size) HO0.out ((hb19.block g3 (lt_blk HG4.out)).trans HG4.out) HY3.out)
        clear hb19 HKF
        go_wp2_with fail
        with_reducible refine HKG.out.mono ?_
        rintro e w20 ⟨rfl, hb20⟩
        have HB20 := Lib.hid (HB19.out.trans (hb20.mono HB19.out.size))
        clear hb20 HKG
        go_wp2_with fail
        refine (awake15 w20).mono ?_
        rintro e w21 ⟨rfl, hb21⟩
        have HB21 := Lib.hid (HB20.out.trans (hb21.mono HB20.out.size))
        clear hb21
        go_wp2_with fail
        go_ret
        exact ⟨rfl, HB21.out⟩
      · clear hgo
        go_wp2_with fail
        with_reducible refine HKE.out.mono ?_
        rintro e w18 ⟨rfl, hb18⟩
        have HB18 := Lib.hid (HB.out.trans (hb18.mono HB.out.size))
        have HKF := Lib.hid (kept_events b r HR.out (by omega) A' c' g2 cu2 w18 ((HCo.out.below HB18.out).more HB18.out.size) HC0.out ((hb18.block g2 (lt_blk HG2.out)).trans HG2.out) HY2.out)
        have HG4 := Lib.hid ((hb18.block g3 (lt_blk HG3.out)).trans HG3.out)
        clear hb18 HKE
        go_wp2_with fail
        with_reducible refine HKF.out.mono ?_
        rintro e w19 ⟨rfl, hb19⟩
        have HB19 := Lib.hid (HB18.out.trans (hb19.mono HB18.out.size))
        have HKG := Lib.hid (kept_ints zs m HM.out (by omega) Ao co g3 cu3 w19 ((HOo.out.below HB19.out).more HB19.out.size) HO0.out ((hb19.block g3 (lt_blk HG4.out)).trans HG4.out) HY3.out)
        clear hb19 HKF
        go_wp2_with fail
        with_reducible refine HKG.out.mono ?_
        rintro e w20 ⟨rfl, hb20⟩
        have HB20 := Lib.hid (HB19.out.trans (hb20.mono HB19.out.size))
        clear hb20 HKG
        go_wp2_with fail
        refine (awake15 w20).mono ?_
        rintro e w21 ⟨rfl, hb21⟩
        have HB21 := Lib.hid (HB20.out.trans (hb21.mono HB20.out.size))
        clear hb21
        go_wp2_with fail
        go_ret
        exact ⟨rfl, HB21.out⟩
theorem normtells_row (a : List Ev) (A : Option Addr) (c : Nat) (b : List Ev) (A' : Option Addr) (c' : Nat) (n : Int) (zs : List Int) (Ao : Option Addr) (co : Nat) (w : World) (hA : Evs w w.heap.size A a) (hA0 : A = none → a.length = 0) (hl : a.length ≤ 140737488351232) (hcap : a.length ≤ c) (hA' : Evs w w.heap.size A' b) (hA0' : A' = none → b.length = 0) (hl' : b.length ≤ 140737488351232) (hcap' : b.length ≤ c')
    (_ : (-9223372036854775808 : Int) ≤ n ∧ n ≤ 9223372036854775807) (hO : Zs w w.heap.size Ao zs) (hO0 : Ao = none → zs.length = 0) (hlo : zs.length ≤ 140737488351232) (_ : zs.length ≤ co) (_ : Zw zs) :
    Calls Try.prog 3 #[.slice A a.length c, .slice A' b.length c', .int .i64 n, .slice Ao zs.length co] w fun e w' => e = .returned (.bool true) ∧ Below w.heap.size w w' :=
  normtells_walk a b _ _ rfl rfl zs _ rfl A A' Ao c c' co n w hA hA0 hl hA' hA0' hl' hO hO0 hlo hcap hcap'
end Go.Proofs.Ytaalinhkikmfaaa
end
