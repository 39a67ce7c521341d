/- store.Commit; two lists of records (assizelaw22.lists: turned out of XNu by words). -/
import Derived.Test.YtdmodhcbcpmadaaDoorA4
import Derived.Test.YtdmodhcbcpmadaaDoorNd
import Derived.Test.YtdmodhcbcpmadaaDoorKg
set_option linter.unusedSimpArgs false
set_option linter.unusedVariables false
namespace Go.Proofs.YtdmodhcbcpmadaaDoor
open Go.RowKit

theorem StoreAt.ne {w : World} {s p p' m q : Nat} {base : Nm} {res g : Int} {lv : Value} {b : Bool} {d : Dk} {L : Lg} (h : StoreAt w s p base res g lv b) (hd : DiskAt w p' m d) (hl : LogAt w q p L) : s ≠ p' ∧ s ≠ m ∧ s ≠ q := by
  refine ⟨?_, hd.raw.no_map (cell_blk h 1), ?_⟩
  · rintro rfl
    have h1 := h.symm.trans hd.own
    simp at h1
  · rintro rfl
    have h1 := h.symm.trans hl
    simp at h1
/-- a store and its log, on their disk. -/
structure Sto (w : World) (s q p m : Nat) (base : Nm) (res g : Int) (b : Bool) (d : Dk) (L : Lg) : Prop where
  disk : DiskAt w p m d
  log : LogAt w q p L
  st : StoreAt w s p base res g (.pointer (some ⟨q, 0, none⟩)) b
theorem Sto.below {w w' : World} {s q p m : Nat} {base : Nm} {res g : Int} {b : Bool} {d : Dk} {L : Lg} (h : Sto w s q p m base res g b d L) (hb : Below w.heap.size w w') : Sto w' s q p m base res g b d L :=
  ⟨h.disk.below hb, (hb.block _ h.log.lt).trans h.log, (hb.block _ (lt_blk h.st)).trans h.st⟩
set_option maxRecDepth 100000 in
set_option maxHeartbeats 2000000 in
theorem snone_st {w : World} {s p : Nat} {base : Nm} {res g : Int} {lv : Value} {b : Bool} (h : StoreAt w s p base res g lv b) : Calls Tryd.prog 37 #[.pointer (some ⟨s, 0, none⟩)] w fun e w' => e = .returned (.bool false) ∧ w' = w := by
  have c0 := cell_blk h 0
  simp only [List.getElem?_toArray, List.getElem?_cons_succ, List.getElem?_cons_zero] at c0
  go_enter Tryd.func37, Tryd.ntmps37
  go_wp2_with fail
  go_ret
  exact ⟨rfl, rfl⟩
set_option maxRecDepth 100000 in
set_option maxHeartbeats 2000000 in
theorem smay_st {w : World} {s p : Nat} {base : Nm} {res g : Int} {lv : Value} {b : Bool} (h : StoreAt w s p base res g lv b) : Calls Tryd.prog 22 #[.pointer (some ⟨s, 0, none⟩)] w fun e w' => e = .returned (.int .i64 (if b = true then 14 else 0)) ∧ w' = w := by
  have c0 := cell_blk h 5
  simp only [List.getElem?_toArray, List.getElem?_cons_succ, List.getElem?_cons_zero] at c0
  have HN := Lib.hid (snone_st h)
  clear h
  cases b with
  | true =>
    go_enter Tryd.func22, Tryd.ntmps22
    go_wp2_with fail
    refine HN.out.mono ?_
    rintro e w1 ⟨rfl, rfl⟩
    go_wp2_with fail
    go_ret
    exact ⟨rfl, rfl⟩
  | false =>
    go_enter Tryd.func22, Tryd.ntmps22
    go_wp2_with fail
    refine HN.out.mono ?_
    rintro e w1 ⟨rfl, rfl⟩
    go_wp2_with fail
    go_ret
    exact ⟨rfl, rfl⟩
set_option maxRecDepth 100000 in
set_option maxHeartbeats 4000000 in
theorem scommit_at {w : World} {s q p m : Nat} {base : Nm} {res g : Int} {d : Dk} {L : Lg} (h : Sto w s q p m base res g false d L) (hok : L.Ok) (hw : d.writes < 100000000000) (b : List UInt8) (n : Nat) (hn : n = b.length) (C : Option Addr) (capb : Nat) (hC : Bs w w.heap.size C b) (hC0 : C = none → b = []) :
    Calls Tryd.prog 5 #[.pointer (some ⟨s, 0, none⟩), .slice C n capb] w fun e w' => e = .returned (.int .i64 (lcommit L d b).2.2) ∧ Sto w' s q p m base res g (lcommit L d b).1.broken (lcommit L d b).2.1 (lcommit L d b).1 ∧ Bw w w' [p, m, q, s] := by
  have HM := Lib.hid (smay_st h.st)
  have HC := Lib.hid (commit_at h.disk h.log hok hw b n hn C capb hC hC0)
  have HNE := Lib.hid (h.st.ne h.disk h.log)
  have hc4 := cell_blk h.st 4
  simp only [List.getElem?_toArray, List.getElem?_cons_succ, List.getElem?_cons_zero] at hc4
  have HS := Lib.hid h.st
  unfold CommitP at HC
  clear h hok hn hC hC0
  generalize lcommit L d b = r at *
  obtain ⟨L2, d2, z⟩ := r
  simp only at HC ⊢
  go_enter Tryd.func5, Tryd.ntmps5
  go_wp2_with fail
  refine HM.out.mono ?_
  rintro e w1 ⟨rfl, hw1⟩
  rw [hw1]
  clear hw1
  go_wp2_with fail
  refine HC.out.mono ?_
  rintro e w2 ⟨rfl, hd, hl, hb⟩
  have HD2 := Lib.hid hd; have HL2 := Lib.hid hl; have HB2 := Lib.hid hb
  have HS2 : Hid (StoreAt w2 s p base res g (.pointer (some ⟨q, 0, none⟩)) false) := Lib.hid ((hb.block _ (lt_blk HS.out) (by have := HNE.out; simp; omega)).trans HS.out)
  clear hd hl hb hc4 HC
  have hc := fun i => cell_blk HS2.out i
  have hc4 := hc 4; have hc5 := hc 5
  simp only [List.getElem?_toArray, List.getElem?_cons_succ, List.getElem?_cons_zero] at hc4 hc5
  have fz := fun i => free_blk HS2.out i
  clear hc
  go_wp2_with fail
  refine (lbroken_at HL2.out).mono ?_
  rintro e w3 ⟨rfl, hw3⟩
  rw [hw3]
  clear hw3
  have hc5' := hc5
  go_wp2_with fail
  go_ret
  refine ⟨rfl, ⟨HD2.out.set hc5' rfl HNE.out.1 _, (Below.heap_setCell _ _ _ _ (by simpa using HNE.out.2.2.symm)).trans HL2.out, set_blk HS2.out 5 _⟩, (HB2.out.more (by simp)).trans (((Ow.refl w2 s).set 5 (.bool L2.broken)).bw.more (by simp))⟩
set_option maxRecDepth 100000 in
set_option maxHeartbeats 2000000 in
theorem lists22 (la lb : List (List UInt8)) (hn : la.length ≤ 1000000) (hm : lb.length ≤ 1000000) (A B : Option Addr) (ca cb Ba Bb : Nat) (w : World) (ha : Ls w Ba A la) (hBa : Ba ≤ w.heap.size) (hb : Ls w Bb B lb) (hBb : Bb ≤ w.heap.size) :
    Calls Tryd.prog 40 #[.slice A la.length ca, .slice B lb.length cb] w fun e w' => e = .returned (.bool (decide (la = lb))) ∧ Below w.heap.size w w' := by
  have HA := Lib.hid ha; have HB := Lib.hid hb
  clear ha hb
  go_enter Tryd.func40, Tryd.ntmps40
  by_cases hl : la.length = lb.length
  · have d0 : ((la.length : Int) != (lb.length : Int)) = false := by rw [bne_eq_false_iff_eq]; omega
    have Hl := Lib.hid hl
    clear hl
    go_wp2_with fail
    go_loopw [5] (fun i wr => ∃ k : Nat, k ≤ la.length ∧ i = .int .i64 k ∧ (∀ j, j < k → la.getD j [] = lb.getD j []) ∧ Below w.heap.size w wr) (fun i _ => la.length - (intOf i).toNat)
    case atStart => exact ⟨0, by omega, rfl, fun j h => by omega, Below.refl _ _⟩
    case round =>
      obtain ⟨k, hk, rfl, hj, hbw⟩ := hrel
      have Hj := Lib.hid hj; have Hb := Lib.hid hbw
      clear hj hbw
      by_cases hlt : k < la.length
      · obtain ⟨b, off, rfl, hb1, Ai, ci, hc1, hs1, hz1⟩ := HA.out k hlt
        obtain ⟨b', off', rfl, hb2, Aj, cj, hc2, hs2, hz2⟩ := HB.out k (by have := Hl.out; omega)
        have hlt2 : k < lb.length := by have := Hl.out; omega
        have C1 : Hid (∀ W, Below wr.heap.size wr W → W.cell? ⟨b, off + k, none⟩ = some (.slice Ai (la.getD k []).length ci)) := Lib.hid (fun W hW => ((Hb.out.trans (hW.mono Hb.out.size)).cell (p := ⟨b, off + k, none⟩) (Nat.lt_of_lt_of_le hb1 hBa)).trans hc1)
        have C2 : Hid (∀ W, Below wr.heap.size wr W → W.cell? ⟨b', off' + k, none⟩ = some (.slice Aj (lb.getD k []).length cj)) := Lib.hid (fun W hW => ((Hb.out.trans (hW.mono Hb.out.size)).cell (p := ⟨b', off' + k, none⟩) (Nat.lt_of_lt_of_le hb2 hBb)).trans hc2)
        have S1 : Hid (∀ W, Below wr.heap.size wr W → Calls Tryd.prog 65 #[.slice Ai (la.getD k []).length ci, .slice Aj (lb.getD k []).length cj] W fun e W' => ∃ v, e = .returned v ∧ Below W.heap.size W W' ∧ ttHolds (.inl (.bool (decide (la.getD k [] = lb.getD k [])))) v W') := Lib.hid (fun W hW => by
          have hwW := Hb.out.trans (hW.mono Hb.out.size)
          exact (same_bytes _ _ Ai Aj _ _ ci cj W _ _ rfl rfl (hs1.below (hwW.mono hBa)) hz1 (hs2.below (hwW.mono hBb)) hz2).mono fun e W' ⟨h1, h2⟩ => ⟨_, h1, h2 ▸ Below.refl _ _, rfl⟩)
        clear hc1 hc2 hs1 hs2 hz1 hz2
        have g1 : (0 : Int) ≤ k := by omega
        have g2 : (k : Int) < la.length := by omega
        have g3 : (k : Int) < lb.length := by omega
        have Heq : Hid (la.getD k [] = lb.getD k [] ∨ la ≠ lb) := Lib.hid (by by_cases e : la = lb; exact .inl (by rw [e]); exact .inr e)
        have Hjn : Hid (la.getD k [] = lb.getD k [] → ∀ j, j < k + 1 → la.getD j [] = lb.getD j []) := Lib.hid (fun e j hj => by
          by_cases h : j = k
          · subst h; exact e
          · exact Hj.out j (by omega))
        have Hne : Hid (la.getD k [] ≠ lb.getD k [] → la ≠ lb) := Lib.hid (fun e h => e (by rw [h]))
        clear Heq
        generalize la.getD k [] = x at *
        generalize lb.getD k [] = y at *
        go_wp2_with fail
        apply wp_region_relS 10 [(Sum.inl _ : TT), (Sum.inl _ : TT), (Sum.inl _ : TT), (Sum.inl _ : TT), (Sum.inl _ : TT), (Sum.inl _ : TT), (Sum.inl _ : TT), (Sum.inl _ : TT), (Sum.inl _ : TT), (Sum.inl _ : TT)] (by kernel_rfl) (by kernel_rfl) rfl
        simp only [List.take_succ_cons, List.take_zero, List.drop_succ_cons, List.drop_zero]
        iterate 8 (apply rel_isS; (intro W hW hf; have hx1 := C1.out W hW; have hx2 := C2.out W hW; go_simp; first | exact ⟨StayS.refl _ _, rfl⟩ | rfl); simp only [Act.put, List.setIfInBounds_toArray, List.set_cons_succ, List.set_cons_zero])
        apply rel_isS
        · intro W hW hf
          exact rel_callS hW rfl (by go_simp <;> first | rfl | exact ⟨rfl, rfl⟩ | exact ⟨rfl, rfl, rfl⟩) (S1.out W hW)
        simp only [Act.put, List.setIfInBounds_toArray, List.set_cons_succ, List.set_cons_zero]
        iterate 1 (apply rel_isS; (intro W hW hf; go_simp; first | exact ⟨StayS.refl _ _, rfl⟩ | rfl); simp only [Act.put, List.setIfInBounds_toArray, List.set_cons_succ, List.set_cons_zero])
        refine rel_endS ?_
        intro W hW hf
        try simp only [Act.put, List.setIfInBounds_toArray, List.set_cons_succ, List.set_cons_zero]
        refine wpList_nil ?_
        have HW := Lib.hid (Hb.out.trans (hW.mono Hb.out.size))
        clear hW hf
        generalize hd : decide (x = y) = d
        cases d
        · have Hd : Hid (la ≠ lb) := Lib.hid (Hne.out (of_decide_eq_false hd))
          clear hd
          go_wp2_with fail
          go_ret
          exact ⟨ret_bool (by simp [Hd.out]), HW.out⟩
        · have Hjn2 := Lib.hid (Hjn.out (of_decide_eq_true hd))
          clear hd
          go_wp2_with fail
          go_roundw
          case rel => exact ⟨k + 1, by omega, by go_num, Hjn2.out, HW.out⟩
          case measure => simp [intOf]; omega
      · obtain rfl : k = la.length := by omega
        have Hd : Hid (la = lb) := Lib.hid (by
          apply List.ext_getElem Hl.out
          intro i h1 h2
          have := Hj.out i h1
          simpa [List.getD_eq_getElem?_getD, h1, h2] using this)
        go_wp2_with fail
        go_ret
        exact ⟨ret_bool (by simp [Hd.out]), Hb.out⟩
  · have d0 : ((la.length : Int) != (lb.length : Int)) = true := by rw [bne_iff_ne]; omega
    have Hd : Hid (la ≠ lb) := Lib.hid (fun e => hl (by rw [e]))
    go_wp2_with fail
    go_ret
    exact ⟨ret_bool (by simp [Hd.out]), Below.refl _ _⟩
end Go.Proofs.YtdmodhcbcpmadaaDoor
