/- the clock of an event behind others, laid into memory. -/
import Derived.Test.YtaalinhkikmfaaaCb
set_option linter.unusedSimpArgs false
set_option linter.unusedVariables false
namespace Go.Proofs.Ytaalinhkikmfaaa
open Go.RowKit

/-- a row of numbers within block g: all else is as it was. -/
structure RowM (w wr : World) (g off n : Nat) (cur : Array Value) (R : Nat → Nat) : Prop where
  grown : w.grownBy wr (some g)
  row : ∃ cur', wr.heap[g]? = some (.cells cur' 3 (0, 0)) ∧ cur'.size = cur.size ∧ (∀ t, t < n → cur'[off + t]? = some (.int .i64 (R t : Nat))) ∧ (∀ j, (j < off ∨ off + n ≤ j) → cur'[j]? = cur[j]?)
theorem grown_ext {w w1 w2 : World} {g : Option Nat} (h : w.grownBy w1 g) (hb : Below w1.heap.size w1 w2) : w.grownBy w2 g :=
  ⟨hb.os.trans h.os, hb.tape.trans h.tape, hb.output.trans h.output, Nat.le_trans h.size hb.size, fun k hk hne => (hb.block k (Nat.lt_of_lt_of_le hk h.size)).trans (h.block k hk hne)⟩
theorem RowM.ext {w wr w' : World} {g off n : Nat} {cur : Array Value} {R : Nat → Nat} (h : RowM w wr g off n cur R) (hb : Below wr.heap.size wr w') : RowM w w' g off n cur R := by
  obtain ⟨cur', h1, h2⟩ := h.row
  exact ⟨grown_ext h.grown hb, cur', (hb.block g (lt_blk h1)).trans h1, h2⟩
theorem RowM.congr {w wr : World} {g off n : Nat} {cur : Array Value} {R R' : Nat → Nat} (h : RowM w wr g off n cur R) (hR : ∀ t, t < n → R t = R' t) : RowM w wr g off n cur R' := by
  obtain ⟨cur', h1, h2, h3, h4⟩ := h.row
  exact ⟨h.grown, cur', h1, h2, fun t ht => by rw [← hR t ht]; exact h3 t ht, h4⟩
theorem RowM.cell {w wr : World} {g off n t : Nat} {cur : Array Value} {R : Nat → Nat} (h : RowM w wr g off n cur R) (ht : t < n) : wr.cell? ⟨g, off + t, none⟩ = some (.int .i64 (R t : Nat)) ∧ wr.frozen? ⟨g, off + t, none⟩ = false := by
  obtain ⟨cur', h1, h2, h3, h4⟩ := h.row
  exact ⟨by rw [cell_blk h1]; exact h3 t ht, free_blk h1 _⟩
theorem RowM.read {w wr : World} {g off n b o : Nat} {cur : Array Value} {R : Nat → Nat} {v : Value} (h : RowM w wr g off n cur R) (hg : w.heap[g]? = some (.cells cur 3 (0, 0))) (hc : w.cell? ⟨b, o, none⟩ = some v) (hs : b ≠ g ∨ o < off ∨ off + n ≤ o) : wr.cell? ⟨b, o, none⟩ = some v := by
  by_cases e : b = g
  · subst e
    obtain ⟨cur', h1, h2, h3, h4⟩ := h.row
    rw [cell_blk h1, h4 o (by rcases hs with hs | hs; exact absurd rfl hs; exact hs)]
    rw [cell_blk hg] at hc; exact hc
  · have hb : b < w.heap.size := World.block_lt_of_cell? _ _ hc
    exact (World.cell?_of_block (w := w) (w' := wr) (a := ⟨b, o, none⟩) (h.grown.block b hb (by intro e2; injection e2 with e2; exact e e2))).trans hc
theorem RowM.write {w wr : World} {g off n t : Nat} {cur : Array Value} {R : Nat → Nat} {z : Int} {m : Nat} (h : RowM w wr g off n cur R) (ht : t < n) (hz : z = m) : RowM w (wr.setCell ⟨g, off + t, none⟩ (.int .i64 z)) g off n cur (fun s => if s = t then m else R s) := by
  subst hz
  obtain ⟨cur', h1, h2, h3, h4⟩ := h.row
  refine ⟨grown_setCell h.grown rfl _, _, set_blk h1 _ _, by simp [h2], fun s hs => ?_, fun j hj => ?_⟩
  · have hlt : off + s < cur'.size := (Array.getElem?_eq_some_iff.1 (h3 s hs)).1
    by_cases e : s = t
    · subst e
      rw [Array.getElem?_setIfInBounds_self_of_lt hlt, if_pos rfl]
    · rw [Array.getElem?_setIfInBounds_ne (by omega), if_neg e]; exact h3 s hs
  · rw [Array.getElem?_setIfInBounds_ne (by omega)]; exact h4 j hj
/-- clocks that a slice of slices holds, of n numbers each, apart from a row that is written. -/
def Cks (w : World) (A : Option Addr) (m n : Nat) (c : Nat → Nat → Nat) (g off : Nat) : Prop :=
  ∀ i, i < m → ∃ b o bi oi ci, A = some ⟨b, o, none⟩ ∧ b ≠ g ∧ w.cell? ⟨b, o + i, none⟩ = some (.slice (some ⟨bi, oi, none⟩) n ci) ∧ (bi ≠ g ∨ oi + n ≤ off) ∧ ∀ t, t < n → w.cell? ⟨bi, oi + t, none⟩ = some (.int .i64 (c i t : Nat))
theorem top_zero (p : Nat → Bool) (f : Nat → Nat) : top 0 p f = 0 := rfl
set_option maxRecDepth 100000 in
set_option maxHeartbeats 4000000 in
theorem next_row (l : List Ev) (hl : l.length ≤ 1000000) (e : Ev) (n : Nat) (hn : n ≤ 1000) (he : 0 ≤ e.t ∧ e.t < n) (c : Nat → Nat → Nat) (g off cap : Nat) (cur : Array Value) (Ac : Option Addr) (mc cc : Nat) (hmc : l.length ≤ mc) (A : Option Addr) (cl B : Nat) (w : World)
    (hg : w.heap[g]? = some (.cells cur 3 (0, 0))) (hz : ∀ t, t < n → cur[off + t]? = some (.int .i64 0)) (hc : Cks w Ac l.length n c g off) (hA : Evs w B A l) (hB : B ≤ g) :
    Calls Try.prog 50 #[.slice (some ⟨g, off, none⟩) n cap, .slice Ac mc cc, .slice A l.length cl, e.v] w fun r w' => r = .returned (.tuple #[]) ∧ RowM w w' g off n cur (fun t => nxt l l.length c e t) := by
  have HG := Lib.hid hg; have HZ := Lib.hid hz; have HC := Lib.hid hc; have HA := Lib.hid hA
  have hgl := lt_blk hg
  clear hg hz hc hA
  obtain ⟨et, ek, eo⟩ := e
  unfold Ev.v
  dsimp only at he
  obtain ⟨he1, he2⟩ := he
  obtain ⟨tt, rfl⟩ := Int.eq_ofNat_of_zero_le he1
  go_enter Try.func50, Try.ntmps50
  go_wp2_with fail
  generalize hW : World.alloc _ _ = w1
  have Hb1 : Hid (Below w.heap.size w w1) := Lib.hid (by subst hW; exact below_alloc _ _)
  have He1 : Hid (w1.heap[w.heap.size]? = some (.cells #[.int .i64 (tt : Int), .int .i64 ek, .int .i64 eo] 50 (0, 0))) := Lib.hid (by subst hW; exact heap_alloc_new _ _)
  have Hg1 : Hid (w1.heap[g]? = some (.cells cur 3 (0, 0))) := Lib.hid ((Hb1.out.block g hgl).trans HG.out)
  have HR1 : Hid (RowM w1 w1 g off n cur (fun _ => 0)) := Lib.hid ⟨World.grownBy.refl w1 _, cur, Hg1.out, rfl, HZ.out, fun _ _ => rfl⟩
  have Hbase : Hid (∀ wr R, RowM w1 wr g off n cur R → RowM w wr g off n cur R) := Lib.hid (fun wr R h => ⟨⟨h.grown.os.trans Hb1.out.os, h.grown.tape.trans Hb1.out.tape, h.grown.output.trans Hb1.out.output, Nat.le_trans Hb1.out.size h.grown.size, fun k hk hne => (h.grown.block k (Nat.lt_of_lt_of_le hk Hb1.out.size) hne).trans (Hb1.out.block k hk)⟩, h.row⟩)
  have Hne : Hid (w.heap.size ≠ g) := Lib.hid (by omega)
  have Hel : Hid (w.heap.size < w1.heap.size) := Lib.hid (lt_blk He1.out)
  generalize hqq : w.heap.size = eb at *
  have Heb := Lib.hid hqq
  clear hW hqq
  go_loopw [8, 14] (fun ow i wr => ∃ k : Nat, k ≤ l.length ∧ i = .int .i64 k ∧ ow = .int .i64 (own l k (tt : Int) : Nat) ∧ RowM w1 wr g off n cur (fun t => top k (fun i => dpd (ev l i) ⟨(tt : Int), ek, eo⟩) (fun i => c i t))) (fun _ i _ => l.length - (intOf i).toNat)
  case atStart => exact ⟨0, by omega, rfl, rfl, HR1.out⟩
  case round =>
    obtain ⟨k, hk, rfl, rfl, hr⟩ := hrel
    have HR := Lib.hid hr
    have hown : own l k (tt : Int) ≤ k := by unfold own; exact Nat.le_trans (List.length_filter_le _ _) (by simp)
    clear hr
    by_cases hlt : k < l.length
    · obtain ⟨b, ol, rfl, hbl, h1, h2, h3⟩ := HA.out k hlt
      have rd : ∀ o v, w.cell? ⟨b, o, none⟩ = some v → wr.cell? ⟨b, o, none⟩ = some v := fun o v h => HR.out.read Hg1.out ((Hb1.out.cell (p := ⟨b, o, none⟩) (show b < eb by omega)).trans h) (.inl (show b ≠ g by omega))
      have c1 := rd _ _ h1
      have c2 := rd _ _ h2
      have c3 := rd _ _ h3
      clear h1 h2 h3 rd
      have Hos := Lib.hid (own_succ l k (tt : Int))
      have Hts : Hid (∀ t, top (k + 1) (fun i => dpd (ev l i) ⟨(tt : Int), ek, eo⟩) (fun i => c i t) = if dpd (ev l k) ⟨(tt : Int), ek, eo⟩ = true then max (top k (fun i => dpd (ev l i) ⟨(tt : Int), ek, eo⟩) (fun i => c i t)) (c k t) else top k (fun i => dpd (ev l i) ⟨(tt : Int), ek, eo⟩) (fun i => c i t)) := Lib.hid (fun t => top_succ k _ _)
      have Hdp := Lib.hid (fun W => depends_any (ev l k) ⟨(tt : Int), ek, eo⟩ W)
      generalize dpd (ev l k) ⟨(tt : Int), ek, eo⟩ = dp at *
      generalize hek : ev l k = x at *
      obtain ⟨xt, xk, xo⟩ := x
      have Hek := Lib.hid hek
      clear hek
      unfold Ev.v at Hdp
      dsimp only at c1 c2 c3 Hdp Hos
      go_upto_region 5 with (fail)
      generalize hW : World.alloc _ _ = w2
      have Hb2 : Hid (Below wr.heap.size wr w2) := Lib.hid (by subst hW; exact below_alloc _ _)
      have Hx2 : Hid (w2.heap[wr.heap.size]? = some (.cells #[.int .i64 xt, .int .i64 xk, .int .i64 xo] 50 (0, 0))) := Lib.hid (by subst hW; exact heap_alloc_new _ _)
      clear hW
      have HR2 := Lib.hid (HR.out.ext Hb2.out)
      have He2 : Hid (w2.heap[eb]? = some (.cells #[.int .i64 (tt : Int), .int .i64 ek, .int .i64 eo] 50 (0, 0))) := Lib.hid ((HR2.out.grown.block eb Hel.out (by intro e2; injection e2 with e2; exact Hne.out e2)).trans He1.out)
      have x1 : w2.cell? ⟨wr.heap.size, 0, none⟩ = some (.int .i64 xt) := by rw [cell_blk Hx2.out]; rfl
      have x2 : w2.cell? ⟨wr.heap.size, 1, none⟩ = some (.int .i64 xk) := by rw [cell_blk Hx2.out]; rfl
      have x3 : w2.cell? ⟨wr.heap.size, 2, none⟩ = some (.int .i64 xo) := by rw [cell_blk Hx2.out]; rfl
      have e1 : w2.cell? ⟨eb, 0, none⟩ = some (.int .i64 (tt : Int)) := by rw [cell_blk He2.out]; rfl
      have e2 : w2.cell? ⟨eb, 1, none⟩ = some (.int .i64 ek) := by rw [cell_blk He2.out]; rfl
      have e3 : w2.cell? ⟨eb, 2, none⟩ = some (.int .i64 eo) := by rw [cell_blk He2.out]; rfl
      clear c1 c2 c3
      have hdx : (xt == (tt : Int)) = decide (xt = (tt : Int)) := by by_cases h : xt = (tt : Int) <;> simp [h]
      rcases hcx : decide (xt = (tt : Int)) with _ | _
      all_goals
        rw [hcx] at hdx
        have Hcx := Lib.hid hcx
        clear hcx
        go_wp2_with fail
        with_reducible refine (Hdp.out w2).mono ?_
        rintro r w3 ⟨rfl, hb3⟩
        have HR3 := Lib.hid (HR2.out.ext hb3)
        clear hb3 x1 x2 x3 e1 e2 e3
        cases dp
        · go_wp2_with fail
          go_roundw
          case rel => exact ⟨k + 1, by omega, by go_num, by rw [Hos.out]; ((first | rw [if_pos (of_decide_eq_true Hcx.out)] | rw [if_neg (of_decide_eq_false Hcx.out)]); try go_num), HR3.out.congr (fun t _ => by rw [Hts.out]; rfl)⟩
          case measure => simp [intOf]; omega
        · go_wp2_with fail
          go_loopw [32] (fun i wr => ∃ s : Nat, s ≤ n ∧ i = .int .i64 s ∧ RowM w1 wr g off n cur (fun t => if t < s then max (top k (fun i => dpd (ev l i) ⟨(tt : Int), ek, eo⟩) (fun i => c i t)) (c k t) else top k (fun i => dpd (ev l i) ⟨(tt : Int), ek, eo⟩) (fun i => c i t))) (fun i _ => n - (intOf i).toNat)
          case atStart => exact ⟨0, by omega, rfl, HR3.out.congr (fun t _ => by rw [if_neg (by omega)])⟩
          case round =>
            obtain ⟨s, hs, rfl, hr⟩ := hrel
            have HR4 := Lib.hid hr
            clear hr
            by_cases hsn : s < n
            · obtain ⟨bc, oc, bi, oi, ci, rfl, hbc, hc1, hsep, hc2⟩ := HC.out k hlt
              have hc3 := hc2 s hsn
              have lift : ∀ b o v, w.cell? ⟨b, o, none⟩ = some v → (b ≠ g ∨ o < off ∨ off + n ≤ o) → wr.cell? ⟨b, o, none⟩ = some v := fun b o v h h2 => HR4.out.read Hg1.out ((Hb1.out.cell (p := ⟨b, o, none⟩) (show b < eb by have := World.block_lt_of_cell? _ _ h; rw [← Heb.out]; exact this)).trans h) h2
              have k1 := lift _ _ _ hc1 (.inl hbc)
              have k2 := lift _ _ _ hc3 (by rcases hsep with h | h; exact .inl h; exact .inr (.inl (by omega)))
              obtain ⟨k3, k4⟩ := HR4.out.cell hsn
              rw [if_neg (Nat.lt_irrefl s)] at k3
              have T1 : Hid (∀ W, Below wr.heap.size wr W → W.cell? ⟨bc, oc + k, none⟩ = some (.slice (some ⟨bi, oi, none⟩) n ci)) := Lib.hid (fun W hW => (hW.cell (p := ⟨bc, oc + k, none⟩) (World.block_lt_of_cell? _ _ k1)).trans k1)
              have T2 : Hid (∀ W, Below wr.heap.size wr W → W.cell? ⟨bi, oi + s, none⟩ = some (.int .i64 (c k s : Nat))) := Lib.hid (fun W hW => (hW.cell (p := ⟨bi, oi + s, none⟩) (World.block_lt_of_cell? _ _ k2)).trans k2)
              have T3 := Lib.hid (fun (W : World) (hW : Below wr.heap.size wr W) => (hW.cell (p := ⟨g, off + s, none⟩) (World.block_lt_of_cell? _ _ k3)).trans k3)
              have Hrs : Hid (∀ t, (if t = s then max (top k (fun i => dpd (ev l i) ⟨(tt : Int), ek, eo⟩) (fun i => c i s)) (c k s) else if t < s then max (top k (fun i => dpd (ev l i) ⟨(tt : Int), ek, eo⟩) (fun i => c i t)) (c k t) else top k (fun i => dpd (ev l i) ⟨(tt : Int), ek, eo⟩) (fun i => c i t)) = if t < s + 1 then max (top k (fun i => dpd (ev l i) ⟨(tt : Int), ek, eo⟩) (fun i => c i t)) (c k t) else top k (fun i => dpd (ev l i) ⟨(tt : Int), ek, eo⟩) (fun i => c i t)) := Lib.hid (fun t => by
                by_cases e1 : t = s
                · subst e1; rw [if_pos rfl, if_pos (by omega)]
                · rw [if_neg e1]
                  by_cases e2 : t < s
                  · rw [if_pos e2, if_pos (by omega)]
                  · rw [if_neg e2, if_neg (by omega)])
              clear k1 k2 k3 k4 lift hc1 hc2 hc3 hsep
              obtain ⟨u, hu⟩ : ∃ u, u = top k (fun i => dpd (ev l i) ⟨(tt : Int), ek, eo⟩) (fun i => c i s) := ⟨_, rfl⟩
              obtain ⟨v, hv⟩ : ∃ v, v = c k s := ⟨_, rfl⟩
              rw [← hu] at T3
              rw [← hv] at T2
              have Hu := Lib.hid hu; have Hv := Lib.hid hv
              clear hu hv
              have g1 : (0 : Int) ≤ s := by omega
              have g2 : (s : Int) < n := by omega
              have g3 : (0 : Int) ≤ k := by omega
              have g4 : (k : Int) < mc := by omega
              go_wp2_with fail
              apply wp_region_relH (H := []) 15 [(Sum.inl _ : TT), (Sum.inl _ : TT), (Sum.inl _ : TT), (Sum.inl _ : TT), (Sum.inl _ : TT), (Sum.inl _ : TT), (Sum.inl _ : TT), (Sum.inl _ : TT), (Sum.inl _ : TT), (Sum.inl _ : TT), (Sum.inl _ : TT), (Sum.inl _ : TT), (Sum.inl _ : TT), (Sum.inl _ : TT), (Sum.inl _ : TT)] (by kernel_rfl) (by kernel_rfl) (fun _ _ _ _ _ h => h) rfl
              simp only [List.take_succ_cons, List.take_zero, List.drop_succ_cons, List.drop_zero]
              iterate 15 (apply rel_isS; (intro W hW hf; have hx1 := T1.out W hW; have hx2 := T2.out W hW; have hx3 := T3.out W hW; go_simp; first | exact ⟨StayS.refl _ _, rfl⟩ | rfl); simp only [Act.put, List.setIfInBounds_toArray, List.set_cons_succ, List.set_cons_zero])
              refine rel_endS ?_
              intro W hW hf
              try simp only [Act.put, List.setIfInBounds_toArray, List.set_cons_succ, List.set_cons_zero]
              have HR5 := Lib.hid (HR4.out.ext hW)
              obtain ⟨_, y2⟩ := HR5.out.cell hsn
              have y1 := T3.out W hW
              clear hf hW
              go_wp2_with fail
              exact ⟨⟨s + 1, by omega, by go_num, (HR5.out.write (m := max u v) hsn (by omega)).congr (fun t _ => by rw [Hu.out, Hv.out]; exact Hrs.out t)⟩, by simp [intOf]; omega⟩
            · obtain rfl : s = n := by omega
              go_wp2_with fail
              go_roundw
              case rel => exact ⟨k + 1, by omega, by go_num, by rw [Hos.out]; ((first | rw [if_pos (of_decide_eq_true Hcx.out)] | rw [if_neg (of_decide_eq_false Hcx.out)]); try go_num), HR4.out.congr (fun t ht => by rw [Hts.out, if_pos ht]; rfl)⟩
              case measure => simp [intOf]; omega
    · obtain rfl : k = l.length := by omega
      have He4 : Hid (wr.heap[eb]? = some (.cells #[.int .i64 (tt : Int), .int .i64 ek, .int .i64 eo] 50 (0, 0))) := Lib.hid ((HR.out.grown.block eb Hel.out (by intro e2; injection e2 with e2; exact Hne.out e2)).trans He1.out)
      have e1 : wr.cell? ⟨eb, 0, none⟩ = some (.int .i64 (tt : Int)) := by rw [cell_blk He4.out]; rfl
      have htn : tt < n := by omega
      obtain ⟨y1, y2⟩ := HR.out.cell htn
      have Hfin : Hid (∀ t, (if t = tt then own l l.length (tt : Int) + 1 else top l.length (fun i => dpd (ev l i) ⟨tt, ek, eo⟩) (fun i => c i t)) = nxt l l.length c ⟨tt, ek, eo⟩ t) := Lib.hid (fun t => by
        unfold nxt
        by_cases h : t = tt
        · subst h; rw [if_pos rfl, if_pos rfl]
        · rw [if_neg h, if_neg (by dsimp only; omega)])
      go_wp2_with fail
      go_end0
      exact ⟨rfl, Hbase.out _ _ ((HR.out.write (m := own l l.length (tt : Int) + 1) htn (by omega)).congr (fun t _ => Hfin.out t))⟩
end Go.Proofs.Ytaalinhkikmfaaa
