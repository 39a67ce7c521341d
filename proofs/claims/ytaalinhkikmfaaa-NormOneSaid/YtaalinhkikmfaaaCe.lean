/- clock.Clocks. -/
import Derived.Test.YtaalinhkikmfaaaCd
set_option linter.unusedSimpArgs false
set_option linter.unusedVariables false
namespace Go.Proofs.Ytaalinhkikmfaaa
open Go.RowKit

/-- after k rounds: the first k rows are the clocks, the others zeros. -/
def Mem (w : World) (g n len k : Nat) (l : List Ev) : Prop :=
  ∃ cur, w.heap[g]? = some (.cells cur 3 (0, 0)) ∧ (∀ i, i < k → ∀ t, t < n → cur[i * n + t]? = some (.int .i64 (clk l i t : Nat))) ∧ (∀ j, k * n ≤ j → j < n * len → cur[j]? = some (.int .i64 0))
theorem mul_le_row {i k n : Nat} (h : i < k) : i * n + n ≤ k * n := by
  have := Nat.mul_le_mul_right n (show i + 1 ≤ k by omega)
  rw [Nat.add_mul, Nat.one_mul] at this; exact this
theorem cks_of {w : World} {g n len k : Nat} {l : List Ev} {v : Value} {B : Nat} (hm : Mem w g n len k l) (ho : w.ownsRow B 23 1 v k (rowVs g n k)) : ∃ A c, v = .slice A k c ∧ Cks w A k n (clk l) g (k * n) := by
  obtain ⟨A, c, rfl, hr, _, _⟩ := own_rd ho
  refine ⟨A, c, rfl, fun i hi => ?_⟩
  obtain ⟨cur, hg, h1, _⟩ := hm
  obtain ⟨b, o, e, hb, hc⟩ := hr i _ (rowVs_get g n k i hi)
  refine ⟨b, o, g, i * n, n, e, ?_, hc, .inr (mul_le_row hi), fun t ht => by rw [cell_blk hg]; exact h1 i hi t ht⟩
  rintro rfl
  rcases ho.2 with ⟨h, _⟩ | ⟨g', cap, cur', h, _, hg', _⟩
  · injection h with h; rw [h] at e; cases e
  · injection h with h
    rw [h] at e
    injection e with e; injection e with e1 e2
    subst e1
    rw [hg] at hg'
    injection hg' with h5
    injection h5 with _ h6
    exact absurd h6 (by decide)
theorem mem_step {w w' : World} {g n len k : Nat} {l : List Ev} {cur : Array Value} (hg : w.heap[g]? = some (.cells cur 3 (0, 0))) (h1 : ∀ i, i < k → ∀ t, t < n → cur[i * n + t]? = some (.int .i64 (clk l i t : Nat))) (h2 : ∀ j, k * n ≤ j → j < n * len → cur[j]? = some (.int .i64 0)) (hk : k < len)
    (hr : RowM w w' g (k * n) n cur (fun t => nxt (l.take k) k (clk l) (ev l k) t)) : Mem w' g n len (k + 1) l := by
  obtain ⟨cur', h3, h4, h5, h6⟩ := hr.row
  refine ⟨cur', h3, fun i hi t ht => ?_, fun j hj1 hj2 => ?_⟩
  · by_cases e : i = k
    · subst e
      rw [h5 t ht, nxt_clk]
    · have := mul_le_row (n := n) (show i < k by omega)
      rw [h6 _ (.inl (by omega))]; exact h1 i (by omega) t ht
  · rw [Nat.add_mul, Nat.one_mul] at hj1
    rw [h6 _ (.inr (by omega))]; exact h2 j (by omega) hj2
theorem Mem.below {w w' : World} {g n len k : Nat} {l : List Ev} (h : Mem w g n len k l) (hb : Below w.heap.size w w') : Mem w' g n len k l := by
  obtain ⟨cur, h1, h2⟩ := h
  exact ⟨cur, (hb.block g (lt_blk h1)).trans h1, h2⟩
theorem Mem.grown {w w' : World} {g n len k B m : Nat} {l : List Ev} {v : Value} {xs : List Value} (h : Mem w g n len k l) (ho : w.ownsRow B 23 1 v m xs) (hb : w.grownBy w' v.ownBlock) : Mem w' g n len k l := by
  obtain ⟨cur, h1, h2⟩ := h
  refine ⟨cur, (hb.block g (lt_blk h1) ?_).trans h1, h2⟩
  rcases ho.2 with ⟨rfl, _⟩ | ⟨g', cap, cur', rfl, _, hg', _⟩
  · simp [Value.ownBlock]
  · simp only [Value.ownBlock]
    intro e
    injection e with e
    subst e
    rw [h1] at hg'
    injection hg' with h5
    injection h5 with _ h6
    exact absurd h6 (by decide)
theorem Cks.ext {w w' : World} {A : Option Addr} {m n g off : Nat} {c : Nat → Nat → Nat} (h : Cks w A m n c g off) (hb : Below w.heap.size w w') : Cks w' A m n c g off := fun i hi => by
  obtain ⟨b, o, bi, oi, ci, e, h1, h2, h3, h4⟩ := h i hi
  exact ⟨b, o, bi, oi, ci, e, h1, (hb.cell (p := ⟨b, o + i, none⟩) (World.block_lt_of_cell? _ _ h2)).trans h2, h3, fun t ht => (hb.cell (p := ⟨bi, oi + t, none⟩) (World.block_lt_of_cell? _ _ (h4 t ht))).trans (h4 t ht)⟩
theorem own_kept_g {w w' : World} {g B k : Nat} {e e' : TypeId} {v : Value} {xs : List Value} {cur : Array Value} (ho : w.ownsRow B e 1 v k xs) (hg : w.heap[g]? = some (.cells cur e' (0, 0))) (hne : e ≠ e') (hb : w.grownBy w' (some g)) : w'.ownsRow B e 1 v k xs := by
  refine ho.kept hb ?_
  rcases ho.2 with ⟨rfl, _⟩ | ⟨g', cap, cur', rfl, _, hg', _⟩
  · exact .inl rfl
  · refine .inr ?_
    simp only [Value.ownBlock]
    intro e2
    injection e2 with e2
    subst e2
    rw [hg] at hg'
    injection hg' with h5
    injection h5 with _ h6
    exact hne h6.symm
set_option maxRecDepth 100000 in
set_option maxHeartbeats 4000000 in
theorem clocks_any (l : List Ev) (hl : l.length ≤ 4611686018427387904) (n : Int) (A : Option Addr) (cap : Nat) (hcap : l.length ≤ cap) (w : World) (hA : Evs w w.heap.size A l) :
    Calls Try.prog 34 #[.slice A l.length cap, .int .i64 n] w (ClkP l n w) := by
  have HA := Lib.hid hA
  clear hA
  go_enter Try.func34, Try.ntmps34
  go_wp2_with fail
  refine (wrong_any l hl n A cap w.heap.size w HA.out (Nat.le_refl _)).mono ?_
  rintro e w1 ⟨rfl, hb1⟩
  have HB1 := Lib.hid hb1
  clear hb1
  by_cases hw : wrongE l n = 0
  · obtain ⟨n1, n2, n3, n4⟩ := wrong_ok hw
    have Hw := Lib.hid hw; have Hgood := Lib.hid (fun i (hi : i < l.length) => good_at n4 hi)
    rw [hw]
    clear hw n4
    obtain ⟨m, rfl⟩ := Int.eq_ofNat_of_zero_le (show 0 ≤ n by omega)
    have hN : m * l.length ≤ 16384 := by
      have := Nat.mul_le_mul (show m ≤ 16 by omega) n3
      exact this
    obtain ⟨N, hNN⟩ : ∃ N, N = m * l.length := ⟨_, rfl⟩
    have q1 : (m : Int) * (l.length : Int) = (N : Int) := by rw [hNN]; simp
    rw [← hNN] at hN
    have HNN := Lib.hid hNN
    clear hNN
    have hmk := fun W => run_make_el EI N N (by simp) (by omega) (by omega) W
    go_wp2_with fail
    generalize hW : World.alloc _ _ = w2
    have Hb2 : Hid (Below w1.heap.size w1 w2) := Lib.hid (by subst hW; exact below_alloc _ _)
    have Hm2 : Hid (Mem w2 w1.heap.size m l.length 0 l) := Lib.hid (by
      subst hW
      refine ⟨_, heap_alloc_new _ _, fun i hi => by omega, fun j _ hj => ?_⟩
      rw [← HNN.out] at hj
      simp [hj])
    have HB2 : Hid (Below w.heap.size w w2) := Lib.hid (HB1.out.trans (Hb2.out.mono HB1.out.size))
    have Hg : Hid (w.heap.size ≤ w1.heap.size) := Lib.hid HB1.out.size
    clear hW hmk
    generalize hgg : w1.heap.size = g at *
    clear hgg
    go_loopw [8, 25] (fun out i wr => ∃ k : Nat, k ≤ l.length ∧ i = .int .i64 k ∧ wr.ownsRow w.heap.size 23 1 out k (rowVs g m k) ∧ Mem wr g m l.length k l ∧ Below w.heap.size w wr) (fun _ i _ => l.length - (intOf i).toNat)
    case atStart => exact ⟨0, by omega, rfl, World.ownsRow_nil _ _ _ _, Hm2.out, HB2.out⟩
    case round =>
      obtain ⟨k, hk, rfl, ho, hm, hb⟩ := hrel
      obtain ⟨Ao, co, rfl, hck⟩ := cks_of hm ho
      have Ho := Lib.hid ho; have Hm := Lib.hid hm; have Hb := Lib.hid hb; have Hck := Lib.hid hck
      clear ho hm hb hck
      by_cases hlt : k < l.length
      · obtain ⟨b, ol, rfl, hbl, h1, h2, h3⟩ := HA.out k hlt
        have c1 := (Hb.out.cell (p := ⟨b, ol + k * 3, none⟩) hbl).trans h1
        have c2 := (Hb.out.cell (p := ⟨b, ol + k * 3 + 1, none⟩) hbl).trans h2
        have c3 := (Hb.out.cell (p := ⟨b, ol + k * 3 + 2, none⟩) hbl).trans h3
        clear h1 h2 h3
        have Hev := Lib.hid (Hgood.out k hlt)
        obtain ⟨p, hp⟩ : ∃ p, p = k * m := ⟨_, rfl⟩
        have hpN : p + m ≤ N := by rw [hp, HNN.out, Nat.mul_comm m]; exact mul_le_row hlt
        have q2 : (k : Int) * (m : Int) = (p : Int) := by rw [hp]; simp
        have q3 : ((k : Int) + 1) * (m : Int) = (p : Int) + m := by rw [Int.add_mul, q2]; simp
        have Hp := Lib.hid hp
        have hlm : ¬ p + m = p := by omega
        clear hp
        have Hst : Hid (∀ cur W W', W.heap[g]? = some (.cells cur 3 (0, 0)) → (∀ i, i < k → ∀ t, t < m → cur[i * m + t]? = some (.int .i64 (clk l i t : Nat))) → (∀ j, k * m ≤ j → j < m * l.length → cur[j]? = some (.int .i64 0)) → RowM W W' g (k * m) m cur (fun t => nxt (l.take k) k (clk l) (ev l k) t) → Mem W' g m l.length (k + 1) l) := Lib.hid (fun cur W W' a b c d => mem_step a b c hlt d)
        rw [← Hp.out] at Hck Hst
        go_upto_region 9 with (fail)
        generalize hW : World.alloc _ _ = w3
        have Hb3 : Hid (Below wr.heap.size wr w3) := Lib.hid (by subst hW; exact below_alloc _ _)
        have Hx3 : Hid (w3.heap[wr.heap.size]? = some (.cells #[.int .i64 (ev l k).t, .int .i64 (ev l k).k, .int .i64 (ev l k).o] 50 (0, 0))) := Lib.hid (by subst hW; exact heap_alloc_new _ _)
        clear hW c1 c2 c3
        go_upto_region 10 with (fail)
        have T1 : Hid (∀ W, Below w3.heap.size w3 W → W.cell? ⟨wr.heap.size, 0, none⟩ = some (.int .i64 (ev l k).t) ∧ W.cell? ⟨wr.heap.size, 1, none⟩ = some (.int .i64 (ev l k).k) ∧ W.cell? ⟨wr.heap.size, 2, none⟩ = some (.int .i64 (ev l k).o)) := Lib.hid (fun W hW => by
          have hx := (hW.block _ (lt_blk Hx3.out)).trans Hx3.out
          exact ⟨by rw [cell_blk hx]; rfl, by rw [cell_blk hx]; rfl, by rw [cell_blk hx]; rfl⟩)
        have Hlt : Hid (k = (l.take k).length) := Lib.hid (by simp; omega)
        have Hzr : Hid (∀ t, t < m → p + t < m * l.length) := Lib.hid (fun t ht => by rw [← HNN.out]; omega)
        have Hkm : Hid (k ≤ 1000000) := Lib.hid (by omega)
        have Hgl : Hid (w.heap.size ≤ g) := Hg
        have g1 : (0 : Int) ≤ k := by omega
        have g2 : (k : Int) ≤ cap := by omega
        apply wp_region_relH (H := []) 6 [(Sum.inl _ : TT), (Sum.inl _ : TT), (Sum.inl _ : TT), (Sum.inl _ : TT), (Sum.inl _ : TT), (Sum.inl _ : TT)] (by kernel_rfl) (by kernel_rfl) (fun _ _ _ _ _ h => h) rfl
        simp only [List.take_succ_cons, List.take_zero, List.drop_succ_cons, List.drop_zero]
        iterate 6 (apply rel_isS; (intro W hW hf; obtain ⟨hx1, hx2, hx3⟩ := T1.out W hW; go_simp; first | exact ⟨StayS.refl _ _, rfl⟩ | rfl); simp only [Act.put, List.setIfInBounds_toArray, List.set_cons_succ, List.set_cons_zero])
        refine rel_endS ?_
        intro W hW hf
        try simp only [Act.put, List.setIfInBounds_toArray, List.set_cons_succ, List.set_cons_zero]
        have HW := Lib.hid (Hb3.out.trans (hW.mono Hb3.out.size))
        clear hf hW
        have HmW := Lib.hid (Hm.out.below HW.out)
        have HcW := Lib.hid (Hck.out.ext HW.out)
        have HoW := Lib.hid (own_below Ho.out HW.out)
        have HbW := Lib.hid (Hb.out.trans (HW.out.mono Hb.out.size))
        obtain ⟨cur, hgW, hm1, hm2⟩ := HmW.out
        have HgW := Lib.hid hgW; have Hm1 := Lib.hid hm1; have Hm2' := Lib.hid hm2
        clear hgW hm1 hm2
        have Hnx := Lib.hid (next_at (l.take k) k Hlt.out Hkm.out (ev l k) m (by omega) Hev.out (clk l) g p m cur Ao k co (Nat.le_refl _) (some ⟨b, ol, none⟩) cap w.heap.size W HgW.out (fun t ht => Hm2'.out _ (by rw [← Hp.out]; omega) (Hzr.out t ht)) HcW.out ((HA.out.below HbW.out).take k) Hgl.out)
        rw [ev_eta] at Hnx
        go_wp2_with fail
        with_reducible refine Hnx.out.mono ?_
        rintro e w4 ⟨rfl, hr4⟩
        have Hr4 := Lib.hid hr4
        clear hr4
        have Hm4 := Lib.hid (Hst.out cur W w4 HgW.out Hm1.out (by rw [Hp.out]; exact Hm2'.out) Hr4.out)
        have Ho4 := Lib.hid (own_kept_g HoW.out HgW.out (by decide) Hr4.out.grown)
        have HB4 : Hid (Below w.heap.size w w4) := Lib.hid (HbW.out.grown Hr4.out.grown HbW.out.size (by intro q e; injection e with e; have := Hg.out; omega))
        go_wp2_with (at_builtin; refine wpList_append_one0 EII rfl (.tmp 50) (.tmp 52) rfl w.heap.size (.slice (some ⟨g, p, none⟩) m m) rfl _ k (rowVs g m k) rfl Ho4.out rfl (by omega) (by omega) w (Nat.le_refl _) HB4.out ?_; intro v5 w5 h2 h3 h4 h5; clear h5; have O5 := Lib.hid h2; have HB5 := Lib.hid h3; have Hm5 := Lib.hid (Hm4.out.grown Ho4.out h4); clear h2 h3 h4)
        go_roundw
        case rel => exact ⟨k + 1, by omega, by go_num, by rw [rowVs_snoc]; have := O5.out; rw [Hp.out] at this; exact this, Hm5.out, HB5.out⟩
        case measure => simp [intOf]; omega
      · obtain rfl : k = l.length := by omega
        go_wp2_with fail
        go_ret2
        obtain ⟨cur, hg2, hc2, _⟩ := Hm.out
        exact ⟨Hb.out, .inr ⟨Hw.out, _, g, cur, rfl, Ho.out, Hg.out, hg2, hc2⟩⟩
  · have hn0 : ((wrongE l n : Nat) : Int) ≠ 0 := by omega
    have d0 : (((wrongE l n : Nat) : Int) != 0) = true := by rw [bne_iff_ne]; exact hn0
    have Hw := Lib.hid hw
    clear hw hn0
    generalize hwe : wrongE l n = we at *
    have Hwe := Lib.hid hwe
    clear hwe
    go_wp2_with fail
    go_ret2
    refine ⟨HB1.out, .inl ⟨?_, ?_⟩⟩
    · rw [Hwe.out]; exact Hw.out
    · rw [Hwe.out]; rfl
end Go.Proofs.Ytaalinhkikmfaaa
