/- tenant.Check. -/
import Derived.Test.YtkdkpnidiehdfaaDoorZn
import Derived.Test.YtkdkpnidiehdfaaDoorZb
set_option linter.unusedSimpArgs false
set_option linter.unusedVariables false
namespace Go.Proofs.YtkdkpnidiehdfaaDoor
open Go.RowKit

theorem chkAt_name {ts : List Tn} {i : Nat} (h : okName (ts.getD i tn0).nm = false) : chkAt ts i = 5 := by unfold chkAt; rw [if_pos h]
theorem chkAt_twice {ts : List Tn} {i : Nat} (h : okName (ts.getD i tn0).nm = true) (h2 : twice ts i i = true) : chkAt ts i = 7 := by unfold chkAt; rw [if_neg (by rw [h]; simp), if_pos h2]
theorem chkAt_fits {ts : List Tn} {i : Nat} (h : okName (ts.getD i tn0).nm = true) (h2 : twice ts i i = false) (h3 : fits (ts.getD i tn0) = false) : chkAt ts i = 2 := by unfold chkAt; rw [if_neg (by rw [h]; simp), if_neg (by rw [h2]; simp), if_pos h3]
theorem chkAt_ok {ts : List Tn} {i : Nat} (h : okName (ts.getD i tn0).nm = true) (h2 : twice ts i i = false) (h3 : fits (ts.getD i tn0) = true) : chkAt ts i = 0 := by unfold chkAt; rw [if_neg (by rw [h]; simp), if_neg (by rw [h2]; simp), if_neg (by rw [h3]; simp)]
theorem twice_on {ts : List Tn} {i k : Nat} (h : twice ts i k = false) (h1 : ¬ (ts.getD k tn0).nm = (ts.getD i tn0).nm) (h2 : ¬ (ts.getD k tn0).tok = (ts.getD i tn0).tok) : twice ts i (k + 1) = false := by
  unfold twice; rw [h, decide_eq_false h1, decide_eq_false h2]; rfl
theorem twice_yes {ts : List Tn} {i k : Nat} (h1 : (ts.getD k tn0).nm = (ts.getD i tn0).nm ∨ (ts.getD k tn0).tok = (ts.getD i tn0).tok) : ∀ {j}, k < j → twice ts i j = true
  | 0, h => absurd h (by omega)
  | j + 1, h => by
    unfold twice
    by_cases e : k = j
    · subst e
      rcases h1 with h1 | h1
      · rw [decide_eq_true h1]; simp
      · rw [decide_eq_true h1]; simp
    · rw [twice_yes h1 (by omega)]; rfl
theorem str_eq (a b : List UInt8) : (str a = str b) ↔ a = b := ⟨str_inj, fun h => by rw [h]⟩
theorem fits_iff (t : Tn) : fits t = true ↔ (60000 ≤ t.res ∧ t.res ≤ 1048576 ∧ 1 ≤ t.jobs ∧ t.jobs ≤ 64 ∧ 1 ≤ t.conns ∧ t.conns ≤ 16) := by
  unfold fits; simp only [Bool.and_eq_true, decide_eq_true_eq, and_assoc]

set_option maxRecDepth 100000 in
set_option maxHeartbeats 8000000 in
theorem check_any (ts : List Tn) (n : Nat) (hn : n = ts.length) (hl : n ≤ 1000000000) (ht : Toks ts) (A : Option Addr) (cap : Nat) (hcap : n ≤ cap) (w : World) (hA : Tns w w.heap.size A ts) :
    Calls Tryd.prog 45 #[.slice A n cap] w fun e w' => e = .returned (.int .i64 (chk ts)) ∧ Below w.heap.size w w' := by
  have HA := Lib.hid hA; have HT := Lib.hid ht; have HN := Lib.hid hn
  have HC1 : Hid (n < 1 ∨ 64 < n → chk ts = 2) := Lib.hid (fun h => by unfold chk; rw [if_pos (by omega)])
  have HC2 : Hid (¬ (n < 1 ∨ 64 < n) → chk ts = chkTo ts ts.length) := Lib.hid (fun h => by unfold chk; rw [if_neg (by omega)])
  clear hA ht hn
  by_cases h1 : n < 1
  · have HE := Lib.hid (HC1.out (.inl h1))
    go_enter Tryd.func45, Tryd.ntmps45
    go_wp2_with fail
    go_ret
    exact ⟨ret_int HE.out.symm, Below.refl _ _⟩
  by_cases h2 : 64 < n
  · have HE := Lib.hid (HC1.out (.inr h2))
    go_enter Tryd.func45, Tryd.ntmps45
    go_wp2_with fail
    go_ret
    exact ⟨ret_int HE.out.symm, Below.refl _ _⟩
  have HE := Lib.hid (HC2.out (by omega))
  clear HC1 HC2
  go_enter Tryd.func45, Tryd.ntmps45
  go_wp2_with fail
  go_loopw [3, 17] (fun _ iv wr => ∃ i : Nat, i ≤ n ∧ iv = .int .i64 i ∧ chkTo ts i = 0 ∧ Below w.heap.size w wr) (fun _ iv _ => n - (RowKit.intOf iv).toNat)
  case atStart => exact ⟨0, by omega, rfl, rfl, Below.refl _ _⟩
  case round =>
    obtain ⟨i, hi, rfl, hc, hb⟩ := hrel
    have HCK := Lib.hid hc; have HB := Lib.hid hb
    clear hc hb
    by_cases hlt : i < n
    · have hil : Hid (i < ts.length) := Lib.hid (by have := HN.out; omega)
      obtain ⟨b, off, rfl, hbw, hr⟩ := (HA.out.below HB.out) i hil.out
      have HI := Lib.hid hr
      have HTI := Lib.hid (HT.out.get i)
      have H5 : Hid (okName (ts.getD i tn0).nm = false → chkAt ts i = 5) := Lib.hid chkAt_name
      have H7 : Hid (okName (ts.getD i tn0).nm = true → twice ts i i = true → chkAt ts i = 7) := Lib.hid chkAt_twice
      have H2 : Hid (okName (ts.getD i tn0).nm = true → twice ts i i = false → fits (ts.getD i tn0) = false → chkAt ts i = 2) := Lib.hid chkAt_fits
      have H0 : Hid (okName (ts.getD i tn0).nm = true → twice ts i i = false → fits (ts.getD i tn0) = true → chkAt ts i = 0) := Lib.hid chkAt_ok
      have HON : Hid (∀ k, twice ts i k = false → ¬ (ts.getD k tn0).nm = (ts.getD i tn0).nm → ¬ (ts.getD k tn0).tok = (ts.getD i tn0).tok → twice ts i (k + 1) = false) := Lib.hid (fun k => twice_on)
      have HYE : Hid (∀ k, k < i → ((ts.getD k tn0).nm = (ts.getD i tn0).nm ∨ (ts.getD k tn0).tok = (ts.getD i tn0).tok) → twice ts i i = true) := Lib.hid (fun k hk h => twice_yes h hk)
      clear hr
      generalize ts.getD i tn0 = t at *
      go_wp2_with (first
        | (refine wpList_load_mid (op := ⟨some 21, .load 77 _, _, _, _, _⟩) rfl _ _ rfl b (off + i * 36) rfl (tnl t) _ HI.out Tryd.underlying77 rfl (size36 HTI.out) ?_)
        | (refine wpList_store_row (o := ⟨none, .store 77 (.tmp 4) (.tmp 21), _, _, _, _⟩) rfl _ _ _ rfl wr.heap.size (tnl t).toArray rfl rfl _ _ (heap_alloc_new _ _) (size36' HTI.out) (by rw [tnl_size HTI.out]; rfl) (all_oneCell_toArray (tnl_one _)) ?_
           generalize hw1 : (wr.alloc _).setRow wr.heap.size (tnl t).toArray = w1
           have HX : Hid (w1.heap[wr.heap.size]? = some (.cells (tnl t).toArray 77 (0, 0))) := Lib.hid (by rw [← hw1]; exact (laid_new _ _ _ _).1)
           have HB1 : Hid (Below wr.heap.size wr w1) := Lib.hid (by rw [← hw1]; exact (laid_new _ _ _ _).2.1)
           have HS1 : Hid (w1.heap.size = wr.heap.size + 1) := Lib.hid (by rw [← hw1]; exact (laid_new _ _ _ _).2.2)
           have HXT := Lib.hid (TnAt.of_block HX.out)
           have c0 := HXT.out.name
           clear hw1))
      have HNM := Lib.hid (named_any t.nm w1)
      refine HNM.out.mono ?_
      rintro e w2 ⟨rfl, hw2⟩
      rw [hw2]
      clear hw2
      cases hok : okName t.nm
      · have HZ := Lib.hid (chkTo_err HCK.out hil.out (by rw [H5.out hok]; decide))
        have HZ2 := Lib.hid (H5.out hok)
        go_wp2_with fail
        go_ret
        exact ⟨ret_int (by rw [HE.out, HZ.out, HZ2.out]), HB.out.trans (HB1.out.mono HB.out.size)⟩
      have HOK := Lib.hid hok
      clear hok
      have HBW : Hid (Below w.heap.size w w1) := Lib.hid (HB.out.trans (HB1.out.mono HB.out.size))
      have hg1 : wr.heap.size < w1.heap.size := by have := HS1.out; omega
      go_wp2_with fail
      generalize hgz : wr.heap.size = g at *
      go_loopw [30] (fun kv wr => ∃ k : Nat, k ≤ i ∧ kv = .int .i64 k ∧ twice ts i k = false ∧ Below w1.heap.size w1 wr) (fun kv _ => i - (RowKit.intOf kv).toNat)
      case atStart => exact ⟨0, by omega, rfl, rfl, Below.refl _ _⟩
      case round =>
        obtain ⟨k, hk, rfl, htw, hbk⟩ := hrel
        have HTW := Lib.hid htw; have HB2 := Lib.hid hbk
        clear htw hbk
        have HBK : Hid (Below w.heap.size w wr) := Lib.hid (HBW.out.trans (HB2.out.mono HBW.out.size))
        have HTB : Hid (wr.heap[g]? = some (.cells (tnl t).toArray 77 (0, 0))) := Lib.hid ((HB2.out.block _ hg1).trans HX.out)
        by_cases hlt2 : k < i
        · obtain ⟨b2, off2, e2, _, hr2⟩ := (HA.out.below HBK.out) k (by have := HN.out; omega)
          injection e2 with e2; injection e2 with a1 a2; subst a1 a2
          have HI2 := Lib.hid hr2
          have HTU := Lib.hid (HT.out.get k)
          have HON2 := Lib.hid (HON.out k HTW.out)
          have HYE2 := Lib.hid (HYE.out k hlt2)
          clear hr2
          generalize ts.getD k tn0 = u at *
          by_cases hnm : u.nm = t.nm
          · have HTT := Lib.hid (HYE2.out (.inl hnm))
            have HZ2 := Lib.hid (H7.out HOK.out HTT.out)
            have HZ := Lib.hid (chkTo_err HCK.out hil.out (by rw [HZ2.out]; decide))
            have HG4 : Hid (decide (u.tok = t.tok) = decide (u.tok = t.tok)) := Lib.hid rfl
            have g1 : ((str u.nm).toList == (str t.nm).toList) = true := by rw [hnm]; exact beq_self_eq_true _
            have g2 : (u.nm == t.nm) = true := by rw [hnm]; exact beq_self_eq_true _
            go_upto_region 11 with (first
              | (refine wpList_load_mid (op := ⟨some 33, .load 77 _, _, _, _, _⟩) rfl _ _ rfl b (off + k * 36) rfl (tnl u) _ HI2.out Tryd.underlying77 rfl (size36 HTU.out) ?_)
              | (refine wpList_store_row (o := ⟨none, .store 77 (.tmp 6) (.tmp 33), _, _, _, _⟩) rfl _ _ _ rfl wr.heap.size (tnl u).toArray rfl rfl _ _ (heap_alloc_new _ _) (size36' HTU.out) (by rw [tnl_size HTU.out]; rfl) (all_oneCell_toArray (tnl_one _)) ?_
                 generalize hw3 : (wr.alloc _).setRow wr.heap.size (tnl u).toArray = w3
                 have HX3 : Hid (w3.heap[wr.heap.size]? = some (.cells (tnl u).toArray 77 (0, 0))) := Lib.hid (by rw [← hw3]; exact (laid_new _ _ _ _).1)
                 have HB3 : Hid (Below wr.heap.size wr w3) := Lib.hid (by rw [← hw3]; exact (laid_new _ _ _ _).2.1)
                 have HTB3 : Hid (w3.heap[g]? = some (.cells (tnl t).toArray 77 (0, 0))) := Lib.hid ((HB3.out.block _ (lt_blk HTB.out)).trans HTB.out)
                 clear hw3
                 have c5 := (TnAt.of_block HX3.out).name
                 have c6 := (TnAt.of_block HTB3.out).name
                 have HD5 := Lib.hid ((TnAt.of_block HX3.out).tok HTU.out)
                 have HD6 := Lib.hid ((TnAt.of_block HTB3.out).tok HTI.out)))
            go_wp2_with (first
              | (refine wpList_load_dig (op := ⟨some 41, _, _, _, _, _⟩) rfl _ rfl wr.heap.size (0 + 1) rfl u.tok HTU.out HD5.out ?_)
              | (refine wpList_load_dig (op := ⟨some 43, _, _, _, _, _⟩) rfl _ rfl g (0 + 1) rfl t.tok HTI.out HD6.out ?_)
              | (refine wpList_eql_dig (op := ⟨some 44, _, _, _, _, _⟩) rfl _ _ rfl u.tok t.tok HTU.out HTI.out rfl rfl _ HG4.out ?_))
            go_ret
            exact ⟨ret_int (by rw [HE.out, HZ.out, HZ2.out]), HBK.out.trans (HB3.out.mono HBK.out.size)⟩
          · have g1 : ((str u.nm).toList == (str t.nm).toList) = false := by
              rw [str_toList, str_toList, beq_eq_false_iff_ne]; exact hnm
            have g2 : (u.nm == t.nm) = false := by rw [beq_eq_false_iff_ne]; exact hnm
            by_cases htk : u.tok = t.tok
            · have HTT := Lib.hid (HYE2.out (.inr htk))
              have HZ2 := Lib.hid (H7.out HOK.out HTT.out)
              have HZ := Lib.hid (chkTo_err HCK.out hil.out (by rw [HZ2.out]; decide))
              have HG4 : Hid (decide (u.tok = t.tok) = true) := Lib.hid (decide_eq_true htk)
              clear htk
              go_upto_region 11 with (first
                | (refine wpList_load_mid (op := ⟨some 33, .load 77 _, _, _, _, _⟩) rfl _ _ rfl b (off + k * 36) rfl (tnl u) _ HI2.out Tryd.underlying77 rfl (size36 HTU.out) ?_)
                | (refine wpList_store_row (o := ⟨none, .store 77 (.tmp 6) (.tmp 33), _, _, _, _⟩) rfl _ _ _ rfl wr.heap.size (tnl u).toArray rfl rfl _ _ (heap_alloc_new _ _) (size36' HTU.out) (by rw [tnl_size HTU.out]; rfl) (all_oneCell_toArray (tnl_one _)) ?_
                   generalize hw3 : (wr.alloc _).setRow wr.heap.size (tnl u).toArray = w3
                   have HX3 : Hid (w3.heap[wr.heap.size]? = some (.cells (tnl u).toArray 77 (0, 0))) := Lib.hid (by rw [← hw3]; exact (laid_new _ _ _ _).1)
                   have HB3 : Hid (Below wr.heap.size wr w3) := Lib.hid (by rw [← hw3]; exact (laid_new _ _ _ _).2.1)
                   have HTB3 : Hid (w3.heap[g]? = some (.cells (tnl t).toArray 77 (0, 0))) := Lib.hid ((HB3.out.block _ (lt_blk HTB.out)).trans HTB.out)
                   clear hw3
                   have c5 := (TnAt.of_block HX3.out).name
                   have c6 := (TnAt.of_block HTB3.out).name
                   have HD5 := Lib.hid ((TnAt.of_block HX3.out).tok HTU.out)
                   have HD6 := Lib.hid ((TnAt.of_block HTB3.out).tok HTI.out)))
              go_wp2_with (first
                | (refine wpList_load_dig (op := ⟨some 41, _, _, _, _, _⟩) rfl _ rfl wr.heap.size (0 + 1) rfl u.tok HTU.out HD5.out ?_)
                | (refine wpList_load_dig (op := ⟨some 43, _, _, _, _, _⟩) rfl _ rfl g (0 + 1) rfl t.tok HTI.out HD6.out ?_)
                | (refine wpList_eql_dig (op := ⟨some 44, _, _, _, _, _⟩) rfl _ _ rfl u.tok t.tok HTU.out HTI.out rfl rfl _ HG4.out ?_))
              go_ret
              exact ⟨ret_int (by rw [HE.out, HZ.out, HZ2.out]), HBK.out.trans (HB3.out.mono HBK.out.size)⟩
            · have HTT := Lib.hid (HON2.out hnm htk)
              have HG4 : Hid (decide (u.tok = t.tok) = false) := Lib.hid (decide_eq_false htk)
              clear htk
              go_upto_region 11 with (first
                | (refine wpList_load_mid (op := ⟨some 33, .load 77 _, _, _, _, _⟩) rfl _ _ rfl b (off + k * 36) rfl (tnl u) _ HI2.out Tryd.underlying77 rfl (size36 HTU.out) ?_)
                | (refine wpList_store_row (o := ⟨none, .store 77 (.tmp 6) (.tmp 33), _, _, _, _⟩) rfl _ _ _ rfl wr.heap.size (tnl u).toArray rfl rfl _ _ (heap_alloc_new _ _) (size36' HTU.out) (by rw [tnl_size HTU.out]; rfl) (all_oneCell_toArray (tnl_one _)) ?_
                   generalize hw3 : (wr.alloc _).setRow wr.heap.size (tnl u).toArray = w3
                   have HX3 : Hid (w3.heap[wr.heap.size]? = some (.cells (tnl u).toArray 77 (0, 0))) := Lib.hid (by rw [← hw3]; exact (laid_new _ _ _ _).1)
                   have HB3 : Hid (Below wr.heap.size wr w3) := Lib.hid (by rw [← hw3]; exact (laid_new _ _ _ _).2.1)
                   have HTB3 : Hid (w3.heap[g]? = some (.cells (tnl t).toArray 77 (0, 0))) := Lib.hid ((HB3.out.block _ (lt_blk HTB.out)).trans HTB.out)
                   clear hw3
                   have c5 := (TnAt.of_block HX3.out).name
                   have c6 := (TnAt.of_block HTB3.out).name
                   have HD5 := Lib.hid ((TnAt.of_block HX3.out).tok HTU.out)
                   have HD6 := Lib.hid ((TnAt.of_block HTB3.out).tok HTI.out)))
              go_wp2_with (first
                | (refine wpList_load_dig (op := ⟨some 41, _, _, _, _, _⟩) rfl _ rfl wr.heap.size (0 + 1) rfl u.tok HTU.out HD5.out ?_)
                | (refine wpList_load_dig (op := ⟨some 43, _, _, _, _, _⟩) rfl _ rfl g (0 + 1) rfl t.tok HTI.out HD6.out ?_)
                | (refine wpList_eql_dig (op := ⟨some 44, _, _, _, _, _⟩) rfl _ _ rfl u.tok t.tok HTU.out HTI.out rfl rfl _ HG4.out ?_))
              go_roundw
              case rel => exact ⟨k + 1, by omega, by go_num, HTT.out, HB2.out.trans (HB3.out.mono HB2.out.size)⟩
              case measure => simp [RowKit.intOf]; omega
        · obtain rfl : k = i := by omega
          have c2 := (TnAt.of_block HTB.out).res HTI.out
          have c3 := (TnAt.of_block HTB.out).jobs HTI.out
          have c4 := (TnAt.of_block HTB.out).conns HTI.out
          -- TESTS (printed by gen_check24.py)
          by_cases f0 : t.res < 60000
          · have HF := Lib.hid (H2.out HOK.out HTW.out (by rw [← Bool.not_eq_true, fits_iff]; omega))
            have HZ := Lib.hid (chkTo_err HCK.out hil.out (by rw [HF.out]; decide))
            go_wp2_with fail
            go_ret
            exact ⟨ret_int (by rw [HE.out, HZ.out, HF.out]), HBK.out⟩
          by_cases f1 : 1048576 < t.res
          · have HF := Lib.hid (H2.out HOK.out HTW.out (by rw [← Bool.not_eq_true, fits_iff]; omega))
            have HZ := Lib.hid (chkTo_err HCK.out hil.out (by rw [HF.out]; decide))
            go_wp2_with fail
            go_ret
            exact ⟨ret_int (by rw [HE.out, HZ.out, HF.out]), HBK.out⟩
          by_cases f2 : t.jobs < 1
          · have HF := Lib.hid (H2.out HOK.out HTW.out (by rw [← Bool.not_eq_true, fits_iff]; omega))
            have HZ := Lib.hid (chkTo_err HCK.out hil.out (by rw [HF.out]; decide))
            go_wp2_with fail
            go_ret
            exact ⟨ret_int (by rw [HE.out, HZ.out, HF.out]), HBK.out⟩
          by_cases f3 : 64 < t.jobs
          · have HF := Lib.hid (H2.out HOK.out HTW.out (by rw [← Bool.not_eq_true, fits_iff]; omega))
            have HZ := Lib.hid (chkTo_err HCK.out hil.out (by rw [HF.out]; decide))
            go_wp2_with fail
            go_ret
            exact ⟨ret_int (by rw [HE.out, HZ.out, HF.out]), HBK.out⟩
          by_cases f4 : t.conns < 1
          · have HF := Lib.hid (H2.out HOK.out HTW.out (by rw [← Bool.not_eq_true, fits_iff]; omega))
            have HZ := Lib.hid (chkTo_err HCK.out hil.out (by rw [HF.out]; decide))
            go_wp2_with fail
            go_ret
            exact ⟨ret_int (by rw [HE.out, HZ.out, HF.out]), HBK.out⟩
          by_cases f5 : 16 < t.conns
          · have HF := Lib.hid (H2.out HOK.out HTW.out (by rw [← Bool.not_eq_true, fits_iff]; omega))
            have HZ := Lib.hid (chkTo_err HCK.out hil.out (by rw [HF.out]; decide))
            go_wp2_with fail
            go_ret
            exact ⟨ret_int (by rw [HE.out, HZ.out, HF.out]), HBK.out⟩
          have HF := Lib.hid (H0.out HOK.out HTW.out (by rw [fits_iff]; omega))
          go_wp2_with fail
          go_roundw
          case rel => exact ⟨k + 1, by omega, by go_num, chkTo_on HCK.out HF.out, HBK.out⟩
          case measure => simp [RowKit.intOf]; omega
          -- END
    · obtain rfl : i = n := by omega
      have HZ : Hid (chkTo ts ts.length = 0) := Lib.hid (by rw [← HN.out]; exact HCK.out)
      go_wp2_with fail
      go_ret
      exact ⟨ret_int (by rw [HE.out, HZ.out]), HB.out⟩
end Go.Proofs.YtkdkpnidiehdfaaDoor
