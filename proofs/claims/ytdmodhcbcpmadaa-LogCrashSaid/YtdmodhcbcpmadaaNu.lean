/- two lists of records: assizelaw21.lists. -/
import Derived.Test.YtdmodhcbcpmadaaNc
import Derived.Test.YtdmodhcbcpmadaaKg
set_option linter.unusedSimpArgs false
set_option linter.unusedVariables false
namespace Go.Proofs.Ytdmodhcbcpmadaa
open Go.RowKit

set_option maxRecDepth 100000 in
set_option maxHeartbeats 2000000 in
theorem lists21 (la lb : List (List UInt8)) (hn : la.length ≤ 1000000) (hm : lb.length ≤ 1000000) (A B : Option Addr) (ca cb Ba Bb : Nat) (w : World) (ha : Ls w Ba A la) (hBa : Ba ≤ w.heap.size) (hb : Ls w Bb B lb) (hBb : Bb ≤ w.heap.size) :
    Calls Try.prog 44 #[.slice A la.length ca, .slice B lb.length cb] w fun e w' => e = .returned (.bool (decide (la = lb))) ∧ Below w.heap.size w w' := by
  have HA := Lib.hid ha; have HB := Lib.hid hb
  clear ha hb
  go_enter Try.func44, Try.ntmps44
  by_cases hl : la.length = lb.length
  · have d0 : ((la.length : Int) != (lb.length : Int)) = false := by rw [bne_eq_false_iff_eq]; omega
    have Hl := Lib.hid hl
    clear hl
    go_wp2_with fail
    go_loopw [5] (fun i wr => ∃ k : Nat, k ≤ la.length ∧ i = .int .i64 k ∧ (∀ j, j < k → la.getD j [] = lb.getD j []) ∧ Below w.heap.size w wr) (fun i _ => la.length - (intOf i).toNat)
    case atStart => exact ⟨0, by omega, rfl, fun j h => by omega, Below.refl _ _⟩
    case round =>
      obtain ⟨k, hk, rfl, hj, hbw⟩ := hrel
      have Hj := Lib.hid hj; have Hb := Lib.hid hbw
      clear hj hbw
      by_cases hlt : k < la.length
      · obtain ⟨b, off, rfl, hb1, Ai, ci, hc1, hs1, hz1⟩ := HA.out k hlt
        obtain ⟨b', off', rfl, hb2, Aj, cj, hc2, hs2, hz2⟩ := HB.out k (by have := Hl.out; omega)
        have hlt2 : k < lb.length := by have := Hl.out; omega
        have C1 : Hid (∀ W, Below wr.heap.size wr W → W.cell? ⟨b, off + k, none⟩ = some (.slice Ai (la.getD k []).length ci)) := Lib.hid (fun W hW => ((Hb.out.trans (hW.mono Hb.out.size)).cell (p := ⟨b, off + k, none⟩) (Nat.lt_of_lt_of_le hb1 hBa)).trans hc1)
        have C2 : Hid (∀ W, Below wr.heap.size wr W → W.cell? ⟨b', off' + k, none⟩ = some (.slice Aj (lb.getD k []).length cj)) := Lib.hid (fun W hW => ((Hb.out.trans (hW.mono Hb.out.size)).cell (p := ⟨b', off' + k, none⟩) (Nat.lt_of_lt_of_le hb2 hBb)).trans hc2)
        have S1 : Hid (∀ W, Below wr.heap.size wr W → Calls Try.prog 27 #[.slice Ai (la.getD k []).length ci, .slice Aj (lb.getD k []).length cj] W fun e W' => ∃ v, e = .returned v ∧ Below W.heap.size W W' ∧ ttHolds (.inl (.bool (decide (la.getD k [] = lb.getD k [])))) v W') := Lib.hid (fun W hW => by
          have hwW := Hb.out.trans (hW.mono Hb.out.size)
          exact (same_bytes _ _ Ai Aj _ _ ci cj W _ _ rfl rfl (hs1.below (hwW.mono hBa)) hz1 (hs2.below (hwW.mono hBb)) hz2).mono fun e W' ⟨h1, h2⟩ => ⟨_, h1, h2 ▸ Below.refl _ _, rfl⟩)
        clear hc1 hc2 hs1 hs2 hz1 hz2
        have g1 : (0 : Int) ≤ k := by omega
        have g2 : (k : Int) < la.length := by omega
        have g3 : (k : Int) < lb.length := by omega
        have Heq : Hid (la.getD k [] = lb.getD k [] ∨ la ≠ lb) := Lib.hid (by by_cases e : la = lb; exact .inl (by rw [e]); exact .inr e)
        have Hjn : Hid (la.getD k [] = lb.getD k [] → ∀ j, j < k + 1 → la.getD j [] = lb.getD j []) := Lib.hid (fun e j hj => by
          by_cases h : j = k
          · subst h; exact e
          · exact Hj.out j (by omega))
        have Hne : Hid (la.getD k [] ≠ lb.getD k [] → la ≠ lb) := Lib.hid (fun e h => e (by rw [h]))
        clear Heq
        generalize la.getD k [] = x at *
        generalize lb.getD k [] = y at *
        go_wp2_with fail
        apply wp_region_relS 10 [(Sum.inl _ : TT), (Sum.inl _ : TT), (Sum.inl _ : TT), (Sum.inl _ : TT), (Sum.inl _ : TT), (Sum.inl _ : TT), (Sum.inl _ : TT), (Sum.inl _ : TT), (Sum.inl _ : TT), (Sum.inl _ : TT)] (by kernel_rfl) (by kernel_rfl) rfl
        simp only [List.take_succ_cons, List.take_zero, List.drop_succ_cons, List.drop_zero]
        iterate 8 (apply rel_isS; (intro W hW hf; have hx1 := C1.out W hW; have hx2 := C2.out W hW; go_simp; first | exact ⟨StayS.refl _ _, rfl⟩ | rfl); simp only [Act.put, List.setIfInBounds_toArray, List.set_cons_succ, List.set_cons_zero])
        apply rel_isS
        · intro W hW hf
          exact rel_callS hW rfl (by go_simp <;> first | rfl | exact ⟨rfl, rfl⟩ | exact ⟨rfl, rfl, rfl⟩) (S1.out W hW)
        simp only [Act.put, List.setIfInBounds_toArray, List.set_cons_succ, List.set_cons_zero]
        iterate 1 (apply rel_isS; (intro W hW hf; go_simp; first | exact ⟨StayS.refl _ _, rfl⟩ | rfl); simp only [Act.put, List.setIfInBounds_toArray, List.set_cons_succ, List.set_cons_zero])
        refine rel_endS ?_
        intro W hW hf
        try simp only [Act.put, List.setIfInBounds_toArray, List.set_cons_succ, List.set_cons_zero]
        refine wpList_nil ?_
        have HW := Lib.hid (Hb.out.trans (hW.mono Hb.out.size))
        clear hW hf
        generalize hd : decide (x = y) = d
        cases d
        · have Hd : Hid (la ≠ lb) := Lib.hid (Hne.out (of_decide_eq_false hd))
          clear hd
          go_wp2_with fail
          go_ret
          exact ⟨ret_bool (by simp [Hd.out]), HW.out⟩
        · have Hjn2 := Lib.hid (Hjn.out (of_decide_eq_true hd))
          clear hd
          go_wp2_with fail
          go_roundw
          case rel => exact ⟨k + 1, by omega, by go_num, Hjn2.out, HW.out⟩
          case measure => simp [intOf]; omega
      · obtain rfl : k = la.length := by omega
        have Hd : Hid (la = lb) := Lib.hid (by
          apply List.ext_getElem Hl.out
          intro i h1 h2
          have := Hj.out i h1
          simpa [List.getD_eq_getElem?_getD, h1, h2] using this)
        go_wp2_with fail
        go_ret
        exact ⟨ret_bool (by simp [Hd.out]), Hb.out⟩
  · have d0 : ((la.length : Int) != (lb.length : Int)) = true := by rw [bne_iff_ne]; omega
    have Hd : Hid (la ≠ lb) := Lib.hid (fun e => hl (by rw [e]))
    go_wp2_with fail
    go_ret
    exact ⟨ret_bool (by simp [Hd.out]), Below.refl _ _⟩
end Go.Proofs.Ytdmodhcbcpmadaa
