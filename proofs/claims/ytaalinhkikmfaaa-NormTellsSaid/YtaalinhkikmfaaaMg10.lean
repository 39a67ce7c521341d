/- several texts in one: the clock of an event behind others, laid into memory., the clocks of a trace., clock.Clocks., clock.Ahead, within a trace. -/
import Derived.Test.YtaalinhkikmfaaaCb
section
set_option linter.unusedSimpArgs false
set_option linter.unusedVariables false
namespace Go.Proofs.Ytaalinhkikmfaaa
open Go.RowKit

/-- a row of numbers within block g: all else is as it was. -/
structure RowM (w wr : World) (g off n : Nat) (cur : Array Value) (R : Nat → Nat) : Prop where
  grown : w.grownBy wr (some g)
  row : ∃ cur', wr.heap[g]? = some (.cells cur' 3 (0, 0)) ∧ cur'.size = cur.size ∧ (∀ t, t < n → cur'[off + t]? = some (.int .i64 (R t : Nat))) ∧ (∀ j, (j < off ∨ off + n ≤ j) → cur'[j]? = cur[j]?)
theorem grown_ext {w w1 w2 : World} {g : Option Nat} (h : w.grownBy w1 g) (hb : Below w1.heap.size w1 w2) : w.grownBy w2 g :=
  ⟨hb.os.trans h.os, hb.tape.trans h.tape, hb.output.trans h.output, Nat.le_trans h.size hb.size, fun k hk hne => (hb.block k (Nat.lt_of_lt_of_le hk h.size)).trans (h.block k hk hne)⟩
theorem RowM.ext {w wr w' : World} {g off n : Nat} {cur : Array Value} {R : Nat → Nat} (h : RowM w wr g off n cur R) (hb : Below wr.heap.size wr w') : RowM w w' g off n cur R := by
  obtain ⟨cur', h1, h2⟩ := h.row
  exact ⟨grown_ext h.grown hb, cur', (hb.block g (lt_blk h1)).trans h1, h2⟩
theorem RowM.congr {w wr : World} {g off n : Nat} {cur : Array Value} {R R' : Nat → Nat} (h : RowM w wr g off n cur R) (hR : ∀ t, t < n → R t = R' t) : RowM w wr g off n cur R' := by
  obtain ⟨cur', h1, h2, h3, h4⟩ := h.row
  exact ⟨h.grown, cur', h1, h2, fun t ht => by rw [← hR t ht]; exact h3 t ht, h4⟩
theorem RowM.cell {w wr : World} {g off n t : Nat} {cur : Array Value} {R : Nat → Nat} (h : RowM w wr g off n cur R) (ht : t < n) : wr.cell? ⟨g, off + t, none⟩ = some (.int .i64 (R t : Nat)) ∧ wr.frozen? ⟨g, off + t, none⟩ = false := by
  obtain ⟨cur', h1, h2, h3, h4⟩ := h.row
  exact ⟨by rw [cell_blk h1]; exact h3 t ht, free_blk h1 _⟩
theorem RowM.read {w wr : World} {g off n b o : Nat} {cur : Array Value} {R : Nat → Nat} {v : Value} (h : RowM w wr g off n cur R) (hg : w.heap[g]? = some (.cells cur 3 (0, 0))) (hc : w.cell? ⟨b, o, none⟩ = some v) (hs : b ≠ g ∨ o < off ∨ off + n ≤ o) : wr.cell? ⟨b, o, none⟩ = some v := by
  by_cases e : b = g
  · subst e
    obtain ⟨cur', h1, h2, h3, h4⟩ := h.row
    rw [cell_blk h1, h4 o (by rcases hs with hs | hs; exact absurd rfl hs; exact hs)]
    rw [cell_blk hg] at hc; exact hc
  · have hb : b < w.heap.size := World.block_lt_of_cell? _ _ hc
    exact (World.cell?_of_block (w := w) (w' := wr) (a := ⟨b, o, none⟩) (h.grown.block b hb (by intro e2; injection e2 with e2; exact e e2))).trans hc
theorem RowM.write {w wr : World} {g off n t : Nat} {cur : Array Value} {R : Nat → Nat} {z : Int} {m : Nat} (h : RowM w wr g off n cur R) (ht : t < n) (hz : z = m) : RowM w (wr.setCell ⟨g, off + t, none⟩ (.int .i64 z)) g off n cur (fun s => if s = t then m else R s) := by
  subst hz
  obtain ⟨cur', h1, h2, h3, h4⟩ := h.row
  refine ⟨grown_setCell h.grown rfl _, _, set_blk h1 _ _, by simp [h2], fun s hs => ?_, fun j hj => ?_⟩
  · have hlt : off + s < cur'.size := (Array.getElem?_eq_some_iff.1 (h3 s hs)).1
    by_cases e : s = t
    · subst e
      rw [Array.getElem?_setIfInBounds_self_of_lt hlt, if_pos rfl]
    · rw [Array.getElem?_setIfInBounds_ne (by omega), if_neg e]; exact h3 s hs
  · rw [Array.getElem?_setIfInBounds_ne (by omega)]; exact h4 j hj
/-- clocks that a slice of slices holds, of n numbers each, apart from a row that is written. -/
def Cks (w : World) (A : Option Addr) (m n : Nat) (c : Nat → Nat → Nat) (g off : Nat) : Prop :=
  ∀ i, i < m → ∃ b o bi oi ci, A = some ⟨b, o, none⟩ ∧ b ≠ g ∧ w.cell? ⟨b, o + i, none⟩ = some (.slice (some ⟨bi, oi, none⟩) n ci) ∧ (bi ≠ g ∨ oi + n ≤ off) ∧ ∀ t, t < n → w.cell? ⟨bi, oi + t, none⟩ = some (.int .i64 (c i t : Nat))
theorem top_zero (p : Nat → Bool) (f : Nat → Nat) : top 0 p f = 0 := rfl
set_option maxRecDepth 100000 in
set_option maxHeartbeats 4000000 in
theorem next_row (l : List Ev) (hl : l.length ≤ 1000000) (e : Ev) (n : Nat) (hn : n ≤ 1000) (he : 0 ≤ e.t ∧ e.t < n) (c : Nat → Nat → Nat) (g off cap : Nat) (cur : Array Value) (Ac : Option Addr) (mc cc : Nat) (hmc : l.length ≤ mc) (A : Option Addr) (cl B : Nat) (w : World)
    (hg : w.heap[g]? = some (.cells cur 3 (0, 0))) (hz : ∀ t, t < n → cur[off + t]? = some (.int .i64 0)) (hc : Cks w Ac l.length n c g off) (hA : Evs w B A l) (hB : B ≤ g) :
    Calls Try.prog 50 #[.slice (some ⟨g, off, none⟩) n cap, .slice Ac mc cc, .slice A l.length cl, e.v] w fun r w' => r = .returned (.tuple #[]) ∧ RowM w w' g off n cur (fun t => nxt l l.length c e t) := by
  have HG := Lib.hid hg; have HZ := Lib.hid hz; have HC := Lib.hid hc; have HA := Lib.hid hA
  have hgl := lt_blk hg
  clear hg hz hc hA
  obtain ⟨et, ek, eo⟩ := e
  unfold Ev.v
  dsimp only at he
  obtain ⟨he1, he2⟩ := he
  obtain ⟨tt, rfl⟩ := Int.eq_ofNat_of_zero_le he1
  go_enter Try.func50, Try.ntmps50
  go_wp2_with fail
  generalize hW : World.alloc _ _ = w1
  have Hb1 : Hid (Below w.heap.size w w1) := Lib.hid (by subst hW; exact below_alloc _ _)
  have He1 : Hid (w1.heap[w.heap.size]? = some (.cells #[.int .i64 (tt : Int), .int .i64 ek, .int .i64 eo] 50 (0, 0))) := Lib.hid (by subst hW; exact heap_alloc_new _ _)
  have Hg1 : Hid (w1.heap[g]? = some (.cells cur 3 (0, 0))) := Lib.hid ((Hb1.out.block g hgl).trans HG.out)
  have HR1 : Hid (RowM w1 w1 g off n cur (fun _ => 0)) := Lib.hid ⟨World.grownBy.refl w1 _, cur, Hg1.out, rfl, HZ.out, fun _ _ => rfl⟩
  have Hbase : Hid (∀ wr R, RowM w1 wr g off n cur R → RowM w wr g off n cur R) := Lib.hid (fun wr R h => ⟨⟨h.grown.os.trans Hb1.out.os, h.grown.tape.trans Hb1.out.tape, h.grown.output.trans Hb1.out.output, Nat.le_trans Hb1.out.size h.grown.size, fun k hk hne => (h.grown.block k (Nat.lt_of_lt_of_le hk Hb1.out.size) hne).trans (Hb1.out.block k hk)⟩, h.row⟩)
  have Hne : Hid (w.heap.size ≠ g) := Lib.hid (by omega)
  have Hel : Hid (w.heap.size < w1.heap.size) := Lib.hid (lt_blk He1.out)
  generalize hqq : w.heap.size = eb at *
  have Heb := Lib.hid hqq
  clear hW hqq
  go_loopw [8, 14] (fun ow i wr => ∃ k : Nat, k ≤ l.length ∧ i = .int .i64 k ∧ ow = .int .i64 (own l k (tt : Int) : Nat) ∧ RowM w1 wr g off n cur (fun t => top k (fun i => dpd (ev l i) ⟨(tt : Int), ek, eo⟩) (fun i => c i t))) (fun _ i _ => l.length - (intOf i).toNat)
  case atStart => exact ⟨0, by omega, rfl, rfl, HR1.out⟩
  case round =>
    obtain ⟨k, hk, rfl, rfl, hr⟩ := hrel
    have HR := Lib.hid hr
    have hown : own l k (tt : Int) ≤ k := by unfold own; exact Nat.le_trans (List.length_filter_le _ _) (by simp)
    clear hr
    by_cases hlt : k < l.length
    · obtain ⟨b, ol, rfl, hbl, h1, h2, h3⟩ := HA.out k hlt
      have rd : ∀ o v, w.cell? ⟨b, o, none⟩ = some v → wr.cell? ⟨b, o, none⟩ = some v := fun o v h => HR.out.read Hg1.out ((Hb1.out.cell (p := ⟨b, o, none⟩) (show b < eb by omega)).trans h) (.inl (show b ≠ g by omega))
      have c1 := rd _ _ h1
      have c2 := rd _ _ h2
      have c3 := rd _ _ h3
      clear h1 h2 h3 rd
      have Hos := Lib.hid (own_succ l k (tt : Int))
      have Hts : Hid (∀ t, top (k + 1) (fun i => dpd (ev l i) ⟨(tt : Int), ek, eo⟩) (fun i => c i t) = if dpd (ev l k) ⟨(tt : Int), ek, eo⟩ = true then max (top k (fun i => dpd (ev l i) ⟨(tt : Int), ek, eo⟩) (fun i => c i t)) (c k t) else top k (fun i => dpd (ev l i) ⟨(tt : Int), ek, eo⟩) (fun i => c i t)) := Lib.hid (fun t => top_succ k _ _)
      have Hdp := Lib.hid (fun W => depends_any (ev l k) ⟨(tt : Int), ek, eo⟩ W)
      generalize dpd (ev l k) ⟨(tt : Int), ek, eo⟩ = dp at *
      generalize hek : ev l k = x at *
      obtain ⟨xt, xk, xo⟩ := x
      have Hek := Lib.hid hek
      clear hek
      unfold Ev.v at Hdp
      dsimp only at c1 c2 c3 Hdp Hos
      go_upto_region 5 with (fail)
      generalize hW : World.alloc _ _ = w2
      have Hb2 : Hid (Below wr.heap.size wr w2) := Lib.hid (by subst hW; exact below_alloc _ _)
      have Hx2 : Hid (w2.heap[wr.heap.size]? = some (.cells #[.int .i64 xt, .int .i64 xk, .int .i64 xo] 50 (0, 0))) := Lib.hid (by subst hW; exact heap_alloc_new _ _)
      clear hW
      have HR2 := Lib.hid (HR.out.ext Hb2.out)
      have He2 : Hid (w2.heap[eb]? = some (.cells #[.int .i64 (tt : Int), .int .i64 ek, .int .i64 eo] 50 (0, 0))) := Lib.hid ((HR2.out.grown.block eb Hel.out (by intro e2; injection e2 with e2; exact Hne.out e2)).trans He1.out)
      have x1 : w2.cell? ⟨wr.heap.size, 0, none⟩ = some (.int .i64 xt) := by rw [cell_blk Hx2.out]; rfl
      have x2 : w2.cell? ⟨wr.heap.size, 1, none⟩ = some (.int .i64 xk) := by rw [cell_blk Hx2.out]; rfl
      have x3 : w2.cell? ⟨wr.heap.size, 2, none⟩ = some (.int .i64 xo) := by rw [cell_blk Hx2.out]; rfl
      have e1 : w2.cell? ⟨eb, 0, none⟩ = some (.int .i64 (tt : Int)) := by rw [cell_blk He2.out]; rfl
      have e2 : w2.cell? ⟨eb, 1, none⟩ = some (.int .i64 ek) := by rw [cell_blk He2.out]; rfl
      have e3 : w2.cell? ⟨eb, 2, none⟩ = some (.int .i64 eo) := by rw [cell_blk He2.out]; rfl
      clear c1 c2 c3
      have hdx : (xt == (tt : Int)) = decide (xt = (tt : Int)) := by by_cases h : xt = (tt : Int) <;> simp [h]
      rcases hcx : decide (xt = (tt : Int)) with _ | _
      all_goals
        rw [hcx] at hdx
        have Hcx := Lib.hid hcx
        clear hcx
        go_wp2_with fail
        with_reducible refine (Hdp.out w2).mono ?_
        rintro r w3 ⟨rfl, hb3⟩
        have HR3 := Lib.hid (HR2.out.ext hb3)
        clear hb3 x1 x2 x3 e1 e2 e3
        cases dp
        · go_wp2_with fail
          go_roundw
          case rel => exact ⟨k + 1, by omega, by go_num, by rw [Hos.out]; ((first | rw [if_pos (of_decide_eq_true Hcx.out)] | rw [if_neg (of_decide_eq_false Hcx.out)]); try go_num), HR3.out.congr (fun t _ => by rw [Hts.out]; rfl)⟩
          case measure => simp [intOf]; omega
        · go_wp2_with fail
          go_loopw [32] (fun i wr => ∃ s : Nat, s ≤ n ∧ i = .int .i64 s ∧ RowM w1 wr g off n cur (fun t => if t < s then max (top k (fun i => dpd (ev l i) ⟨(tt : Int), ek, eo⟩) (fun i => c i t)) (c k t) else top k (fun i => dpd (ev l i) ⟨(tt : Int), ek, eo⟩) (fun i => c i t))) (fun i _ => n - (intOf i).toNat)
          case atStart => exact ⟨0, by omega, rfl, HR3.out.congr (fun t _ => by rw [if_neg (by omega)])⟩
          case round =>
            obtain ⟨s, hs, rfl, hr⟩ := hrel
            have HR4 := Lib.hid hr
            clear hr
            by_cases hsn : s < n
            · obtain ⟨bc, oc, bi, oi, ci, rfl, hbc, hc1, hsep, hc2⟩ := HC.out k hlt
              have hc3 := hc2 s hsn
              have lift : ∀ b o v, w.cell? ⟨b, o, none⟩ = some v → (b ≠ g ∨ o < off ∨ off + n ≤ o) → wr.cell? ⟨b, o, none⟩ = some v := fun b o v h h2 => HR4.out.read Hg1.out ((Hb1.out.cell (p := ⟨b, o, none⟩) (show b < eb by have := World.block_lt_of_cell? _ _ h; rw [← Heb.out]; exact this)).trans h) h2
              have k1 := lift _ _ _ hc1 (.inl hbc)
              have k2 := lift _ _ _ hc3 (by rcases hsep with h | h; exact .inl h; exact .inr (.inl (by omega)))
              obtain ⟨k3, k4⟩ := HR4.out.cell hsn
              rw [if_neg (Nat.lt_irrefl s)] at k3
              have T1 : Hid (∀ W, Below wr.heap.size wr W → W.cell? ⟨bc, oc + k, none⟩ = some (.slice (some ⟨bi, oi, none⟩) n ci)) := Lib.hid (fun W hW => (hW.cell (p := ⟨bc, oc + k, none⟩) (World.block_lt_of_cell? _ _ k1)).trans k1)
              have T2 : Hid (∀ W, Below wr.heap.size wr W → W.cell? ⟨bi, oi + s, none⟩ = some (.int .i64 (c k s : Nat))) := Lib.hid (fun W hW => (hW.cell (p := ⟨bi, oi + s, none⟩) (World.block_lt_of_cell? _ _ k2)).trans k2)
              have T3 := Lib.hid (fun (W : World) (hW : Below wr.heap.size wr W) => (hW.cell (p := ⟨g, off + s, none⟩) (World.block_lt_of_cell? _ _ k3)).trans k3)
              have Hrs : Hid (∀ t, (if t = s then max (top k (fun i => dpd (ev l i) ⟨(tt : Int), ek, eo⟩) (fun i => c i s)) (c k s) else if t < s then max (top k (fun i => dpd (ev l i) ⟨(tt : Int), ek, eo⟩) (fun i => c i t)) (c k t) else top k (fun i => dpd (ev l i) ⟨(tt : Int), ek, eo⟩) (fun i => c i t)) = if t < s + 1 then max (top k (fun i => dpd (ev l i) ⟨(tt : Int), ek, eo⟩) (fun i => c i t)) (c k t) else top k (fun i => dpd (ev l i) ⟨(tt : Int), ek, eo⟩) (fun i => c i t)) := Lib.hid (fun t => by
                by_cases e1 : t = s
                · subst e1; rw [if_pos rfl, if_pos (by omega)]
                · rw [if_neg e1]
                  by_cases e2 : t < s
                  · rw [if_pos e2, if_pos (by omega)]
                  · rw [if_neg e2, if_neg (by omega)])
              clear k1 k2 k3 k4 lift hc1 hc2 hc3 hsep
              obtain ⟨u, hu⟩ : ∃ u, u = top k (fun i => dpd (ev l i) ⟨(tt : Int), ek, eo⟩) (fun i => c i s) := ⟨_, rfl⟩
              obtain ⟨v, hv⟩ : ∃ v, v = c k s := ⟨_, rfl⟩
              rw [← hu] at T3
              rw [← hv] at T2
              have Hu := Lib.hid hu; have Hv := Lib.hid hv
              clear hu hv
              have g1 : (0 : Int) ≤ s := by omega
              have g2 : (s : Int) < n := by omega
              have g3 : (0 : Int) ≤ k := by omega
              have g4 : (k : Int) < mc := by omega
              go_wp2_with fail
              apply wp_region_relH (H := []) 15 [(Sum.inl _ : TT), (Sum.inl _ : TT), (Sum.inl _ : TT), (Sum.inl _ : TT), (Sum.inl _ : TT), (Sum.inl _ : TT), (Sum.inl _ : TT), (Sum.inl _ : TT), (Sum.inl _ : TT), (Sum.inl _ : TT), (Sum.inl _ : TT), (Sum.inl _ : TT), (Sum.inl _ : TT), (Sum.inl _ : TT), (Sum.inl _ : TT)] (by kernel_rfl) (by kernel_rfl) (fun _ _ _ _ _ h => h) rfl
              simp only [List.take_succ_cons, List.take_zero, List.drop_succ_cons, List.drop_zero]
              iterate 15 (apply rel_isS; (intro W hW hf; have hx1 := T1.out W hW; have hx2 := T2.out W hW; have hx3 := T3.out W hW; go_simp; first | exact ⟨StayS.refl _ _, rfl⟩ | rfl); simp only [Act.put, List.setIfInBounds_toArray, List.set_cons_succ, List.set_cons_zero])
              refine rel_endS ?_
              intro W hW hf
              try simp only [Act.put, List.setIfInBounds_toArray, List.set_cons_succ, List.set_cons_zero]
              have HR5 := Lib.hid (HR4.out.ext hW)
              obtain ⟨_, y2⟩ := HR5.out.cell hsn
              have y1 := T3.out W hW
              clear hf hW
              go_wp2_with fail
              exact ⟨⟨s + 1, by omega, by go_num, (HR5.out.write (m := max u v) hsn (by omega)).congr (fun t _ => by rw [Hu.out, Hv.out]; exact Hrs.out t)⟩, by simp [intOf]; omega⟩
            · obtain rfl : s = n := by omega
              go_wp2_with fail
              go_roundw
              case rel => exact ⟨k + 1, by omega, by go_num, by rw [Hos.out]; ((first | rw [if_pos (of_decide_eq_true Hcx.out)] | rw [if_neg (of_decide_eq_false Hcx.out)]); try go_num), HR4.out.congr (fun t ht => by rw [Hts.out, if_pos ht]; rfl)⟩
              case measure => simp [intOf]; omega
    · obtain rfl : k = l.length := by omega
      have He4 : Hid (wr.heap[eb]? = some (.cells #[.int .i64 (tt : Int), .int .i64 ek, .int .i64 eo] 50 (0, 0))) := Lib.hid ((HR.out.grown.block eb Hel.out (by intro e2; injection e2 with e2; exact Hne.out e2)).trans He1.out)
      have e1 : wr.cell? ⟨eb, 0, none⟩ = some (.int .i64 (tt : Int)) := by rw [cell_blk He4.out]; rfl
      have htn : tt < n := by omega
      obtain ⟨y1, y2⟩ := HR.out.cell htn
      have Hfin : Hid (∀ t, (if t = tt then own l l.length (tt : Int) + 1 else top l.length (fun i => dpd (ev l i) ⟨tt, ek, eo⟩) (fun i => c i t)) = nxt l l.length c ⟨tt, ek, eo⟩ t) := Lib.hid (fun t => by
        unfold nxt
        by_cases h : t = tt
        · subst h; rw [if_pos rfl, if_pos rfl]
        · rw [if_neg h, if_neg (by dsimp only; omega)])
      go_wp2_with fail
      go_end0
      exact ⟨rfl, Hbase.out _ _ ((HR.out.write (m := own l l.length (tt : Int) + 1) htn (by omega)).congr (fun t _ => Hfin.out t))⟩
end Go.Proofs.Ytaalinhkikmfaaa
end

section
set_option linter.unusedSimpArgs false
set_option linter.unusedVariables false
namespace Go.Proofs.Ytaalinhkikmfaaa
open Go.RowKit

theorem EI : El Try.prog 23 3 (.int .i64 0) 8 := ⟨Try.underlying23, by kernel_rfl, rfl⟩
theorem EII : El Try.prog 32 23 (.slice none 0 0) 24 := ⟨Try.underlying32, by kernel_rfl, rfl⟩
/-- a slice of clocks of n numbers each. -/
def Clk (w : World) (B : Nat) (A : Option Addr) (m n : Nat) (c : Nat → Nat → Nat) : Prop :=
  ∀ i, i < m → ∃ b o bi oi ci, A = some ⟨b, o, none⟩ ∧ b < B ∧ bi < B ∧ w.cell? ⟨b, o + i, none⟩ = some (.slice (some ⟨bi, oi, none⟩) n ci) ∧ ∀ t, t < n → w.cell? ⟨bi, oi + t, none⟩ = some (.int .i64 (c i t : Nat))
theorem Clk.keep {w w' : World} {B m n : Nat} {A : Option Addr} {c : Nat → Nat → Nat} (h : Clk w B A m n c) (hk : ∀ b o, b < B → w'.cell? ⟨b, o, none⟩ = w.cell? ⟨b, o, none⟩) : Clk w' B A m n c := fun i hi => by
  obtain ⟨b, o, bi, oi, ci, e, h1, h2, h3, h4⟩ := h i hi
  exact ⟨b, o, bi, oi, ci, e, h1, h2, (hk _ _ h1).trans h3, fun t ht => (hk _ _ h2).trans (h4 t ht)⟩
theorem Clk.below {w w' : World} {B m n : Nat} {A : Option Addr} {c : Nat → Nat → Nat} (h : Clk w B A m n c) (hb : Below B w w') : Clk w' B A m n c := h.keep fun b o hbB => hb.cell (p := ⟨b, o, none⟩) hbB
theorem Clk.more {w : World} {B B' m n : Nat} {A : Option Addr} {c : Nat → Nat → Nat} (h : Clk w B A m n c) (hB : B ≤ B') : Clk w B' A m n c := fun i hi => by
  obtain ⟨b, o, bi, oi, ci, e, h1, h2, h3, h4⟩ := h i hi
  exact ⟨b, o, bi, oi, ci, e, by omega, by omega, h3, h4⟩
def rowV (g n i : Nat) : Value := .slice (some ⟨g, i * n, none⟩) n n
def rowVs (g n k : Nat) : List Value := (List.range k).map (rowV g n)
theorem rowVs_snoc (g n k : Nat) : rowVs g n (k + 1) = rowVs g n k ++ [rowV g n k] := by simp [rowVs, List.range_succ]
theorem rowVs_get (g n k i : Nat) (h : i < k) : (rowVs g n k)[i]? = some (rowV g n i) := by simp [rowVs, h]
def ClkP (l : List Ev) (n : Int) (w : World) (r : Ending) (w' : World) : Prop :=
  Below w.heap.size w w' ∧ ((wrongE l n ≠ 0 ∧ r = .returned (.tuple #[.slice none 0 0, .int .i64 (wrongE l n : Nat)])) ∨
    (wrongE l n = 0 ∧ ∃ v g cur, r = .returned (.tuple #[v, .int .i64 0]) ∧ w'.ownsRow w.heap.size 23 1 v l.length (rowVs g n.toNat l.length) ∧ w.heap.size ≤ g ∧ w'.heap[g]? = some (.cells cur 3 (0, 0)) ∧
      ∀ i, i < l.length → ∀ t, t < n.toNat → cur[i * n.toNat + t]? = some (.int .i64 (clk l i t : Nat))))
theorem wrong_ok {l : List Ev} {n : Int} (h : wrongE l n = 0) : 1 ≤ n ∧ n ≤ 16 ∧ l.length ≤ 1024 ∧ badL l n = false := by
  unfold wrongE at h
  split at h
  · cases h
  · split at h
    · cases h
    · split at h
      · cases h
      · rename_i h1 h2 h3
        exact ⟨by omega, by omega, by omega, by simpa using h3⟩
theorem ev_take (l : List Ev) (k i : Nat) (h : i < k) : ev (l.take k) i = ev l i := by simp [ev, List.getD_eq_getElem?_getD, List.getElem?_take, h]
theorem Evs.take {w : World} {B : Nat} {A : Option Addr} {l : List Ev} (h : Evs w B A l) (k : Nat) : Evs w B A (l.take k) := fun i hi => by
  have hi' : i < k ∧ i < l.length := by simp at hi; omega
  rw [ev_take l k i hi'.1]; exact h i hi'.2
theorem nxt_clk (l : List Ev) (k t : Nat) : nxt (l.take k) k (clk l) (ev l k) t = clk l k t := by
  rw [clk_eq]
  exact nxt_congr (fun i hi => ev_take l k i hi) (fun _ _ => rfl)
theorem next_at (l : List Ev) (m : Nat) (hm : m = l.length) (hl : m ≤ 1000000) (e : Ev) (n : Nat) (hn : n ≤ 1000) (he : 0 ≤ e.t ∧ e.t < n) (c : Nat → Nat → Nat) (g off cap : Nat) (cur : Array Value) (Ac : Option Addr) (mc cc : Nat) (hmc : m ≤ mc) (A : Option Addr) (cl B : Nat) (w : World)
    (hg : w.heap[g]? = some (.cells cur 3 (0, 0))) (hz : ∀ t, t < n → cur[off + t]? = some (.int .i64 0)) (hc : Cks w Ac m n c g off) (hA : Evs w B A l) (hB : B ≤ g) :
    Calls Try.prog 50 #[.slice (some ⟨g, off, none⟩) n cap, .slice Ac mc cc, .slice A m cl, e.v] w fun r w' => r = .returned (.tuple #[]) ∧ RowM w w' g off n cur (fun t => nxt l m c e t) := by
  subst hm; exact next_row l hl e n hn he c g off cap cur Ac mc cc hmc A cl B w hg hz hc hA hB
end Go.Proofs.Ytaalinhkikmfaaa
end

section
set_option linter.unusedSimpArgs false
set_option linter.unusedVariables false
namespace Go.Proofs.Ytaalinhkikmfaaa
open Go.RowKit

/-- after k rounds: the first k rows are the clocks, the others zeros. -/
def Mem (w : World) (g n len k : Nat) (l : List Ev) : Prop :=
  ∃ cur, w.heap[g]? = some (.cells cur 3 (0, 0)) ∧ (∀ i, i < k → ∀ t, t < n → cur[i * n + t]? = some (.int .i64 (clk l i t : Nat))) ∧ (∀ j, k * n ≤ j → j < n * len → cur[j]? = some (.int .i64 0))
theorem mul_le_row {i k n : Nat} (h : i < k) : i * n + n ≤ k * n := by
  have := Nat.mul_le_mul_right n (show i + 1 ≤ k by omega)
  rw [Nat.add_mul, Nat.one_mul] at this; exact this
theorem cks_of {w : World} {g n len k : Nat} {l : List Ev} {v : Value} {B : Nat} (hm : Mem w g n len k l) (ho : w.ownsRow B 23 1 v k (rowVs g n k)) : ∃ A c, v = .slice A k c ∧ Cks w A k n (clk l) g (k * n) := by
  obtain ⟨A, c, rfl, hr, _, _⟩ := own_rd ho
  refine ⟨A, c, rfl, fun i hi => ?_⟩
  obtain ⟨cur, hg, h1, _⟩ := hm
  obtain ⟨b, o, e, hb, hc⟩ := hr i _ (rowVs_get g n k i hi)
  refine ⟨b, o, g, i * n, n, e, ?_, hc, .inr (mul_le_row hi), fun t ht => by rw [cell_blk hg]; exact h1 i hi t ht⟩
  rintro rfl
  rcases ho.2 with ⟨h, _⟩ | ⟨g', cap, cur', h, _, hg', _⟩
  · injection h with h; rw [h] at e; cases e
  · injection h with h
    rw [h] at e
    injection e with e; injection e with e1 e2
    subst e1
    rw [hg] at hg'
    injection hg' with h5
    injection h5 with _ h6
    exact absurd h6 (by decide)
theorem mem_step {w w' : World} {g n len k : Nat} {l : List Ev} {cur : Array Value} (hg : w.heap[g]? = some (.cells cur 3 (0, 0))) (h1 : ∀ i, i < k → ∀ t, t < n → cur[i * n + t]? = some (.int .i64 (clk l i t : Nat))) (h2 : ∀ j, k * n ≤ j → j < n * len → cur[j]? = some (.int .i64 0)) (hk : k < len)
    (hr : RowM w w' g (k * n) n cur (fun t => nxt (l.take k) k (clk l) (ev l k) t)) : Mem w' g n len (k + 1) l := by
  obtain ⟨cur', h3, h4, h5, h6⟩ := hr.row
  refine ⟨cur', h3, fun i hi t ht => ?_, fun j hj1 hj2 => ?_⟩
  · by_cases e : i = k
    · subst e
      rw [h5 t ht, nxt_clk]
    · have := mul_le_row (n := n) (show i < k by omega)
      rw [h6 _ (.inl (by omega))]; exact h1 i (by omega) t ht
  · rw [Nat.add_mul, Nat.one_mul] at hj1
    rw [h6 _ (.inr (by omega))]; exact h2 j (by omega) hj2
theorem Mem.below {w w' : World} {g n len k : Nat} {l : List Ev} (h : Mem w g n len k l) (hb : Below w.heap.size w w') : Mem w' g n len k l := by
  obtain ⟨cur, h1, h2⟩ := h
  exact ⟨cur, (hb.block g (lt_blk h1)).trans h1, h2⟩
theorem Mem.grown {w w' : World} {g n len k B m : Nat} {l : List Ev} {v : Value} {xs : List Value} (h : Mem w g n len k l) (ho : w.ownsRow B 23 1 v m xs) (hb : w.grownBy w' v.ownBlock) : Mem w' g n len k l := by
  obtain ⟨cur, h1, h2⟩ := h
  refine ⟨cur, (hb.block g (lt_blk h1) ?_).trans h1, h2⟩
  rcases ho.2 with ⟨rfl, _⟩ | ⟨g', cap, cur', rfl, _, hg', _⟩
  · simp [Value.ownBlock]
  · simp only [Value.ownBlock]
    intro e
    injection e with e
    subst e
    rw [h1] at hg'
    injection hg' with h5
    injection h5 with _ h6
    exact absurd h6 (by decide)
theorem Cks.ext {w w' : World} {A : Option Addr} {m n g off : Nat} {c : Nat → Nat → Nat} (h : Cks w A m n c g off) (hb : Below w.heap.size w w') : Cks w' A m n c g off := fun i hi => by
  obtain ⟨b, o, bi, oi, ci, e, h1, h2, h3, h4⟩ := h i hi
  exact ⟨b, o, bi, oi, ci, e, h1, (hb.cell (p := ⟨b, o + i, none⟩) (World.block_lt_of_cell? _ _ h2)).trans h2, h3, fun t ht => (hb.cell (p := ⟨bi, oi + t, none⟩) (World.block_lt_of_cell? _ _ (h4 t ht))).trans (h4 t ht)⟩
theorem own_kept_g {w w' : World} {g B k : Nat} {e e' : TypeId} {v : Value} {xs : List Value} {cur : Array Value} (ho : w.ownsRow B e 1 v k xs) (hg : w.heap[g]? = some (.cells cur e' (0, 0))) (hne : e ≠ e') (hb : w.grownBy w' (some g)) : w'.ownsRow B e 1 v k xs := by
  refine ho.kept hb ?_
  rcases ho.2 with ⟨rfl, _⟩ | ⟨g', cap, cur', rfl, _, hg', _⟩
  · exact .inl rfl
  · refine .inr ?_
    simp only [Value.ownBlock]
    intro e2
    injection e2 with e2
    subst e2
    rw [hg] at hg'
    injection hg' with h5
    injection h5 with _ h6
    exact hne h6.symm
set_option maxRecDepth 100000 in
set_option maxHeartbeats 4000000 in
theorem clocks_any (l : List Ev) (hl : l.length ≤ 4611686018427387904) (n : Int) (A : Option Addr) (cap : Nat) (hcap : l.length ≤ cap) (w : World) (hA : Evs w w.heap.size A l) :
    Calls Try.prog 34 #[.slice A l.length cap, .int .i64 n] w (ClkP l n w) := by
  have HA := Lib.hid hA
  clear hA
  go_enter Try.func34, Try.ntmps34
  go_wp2_with fail
  refine (wrong_any l hl n A cap w.heap.size w HA.out (Nat.le_refl _)).mono ?_
  rintro e w1 ⟨rfl, hb1⟩
  have HB1 := Lib.hid hb1
  clear hb1
  by_cases hw : wrongE l n = 0
  · obtain ⟨n1, n2, n3, n4⟩ := wrong_ok hw
    have Hw := Lib.hid hw; have Hgood := Lib.hid (fun i (hi : i < l.length) => good_at n4 hi)
    rw [hw]
    clear hw n4
    obtain ⟨m, rfl⟩ := Int.eq_ofNat_of_zero_le (show 0 ≤ n by omega)
    have hN : m * l.length ≤ 16384 := by
      have := Nat.mul_le_mul (show m ≤ 16 by omega) n3
      exact this
    obtain ⟨N, hNN⟩ : ∃ N, N = m * l.length := ⟨_, rfl⟩
    have q1 : (m : Int) * (l.length : Int) = (N : Int) := by rw [hNN]; simp
    rw [← hNN] at hN
    have HNN := Lib.hid hNN
    clear hNN
    have hmk := fun W => run_make_el EI N N (by simp) (by omega) (by omega) W
    go_wp2_with fail
    generalize hW : World.alloc _ _ = w2
    have Hb2 : Hid (Below w1.heap.size w1 w2) := Lib.hid (by subst hW; exact below_alloc _ _)
    have Hm2 : Hid (Mem w2 w1.heap.size m l.length 0 l) := Lib.hid (by
      subst hW
      refine ⟨_, heap_alloc_new _ _, fun i hi => by omega, fun j _ hj => ?_⟩
      rw [← HNN.out] at hj
      simp [hj])
    have HB2 : Hid (Below w.heap.size w w2) := Lib.hid (HB1.out.trans (Hb2.out.mono HB1.out.size))
    have Hg : Hid (w.heap.size ≤ w1.heap.size) := Lib.hid HB1.out.size
    clear hW hmk
    generalize hgg : w1.heap.size = g at *
    clear hgg
    go_loopw [8, 25] (fun out i wr => ∃ k : Nat, k ≤ l.length ∧ i = .int .i64 k ∧ wr.ownsRow w.heap.size 23 1 out k (rowVs g m k) ∧ Mem wr g m l.length k l ∧ Below w.heap.size w wr) (fun _ i _ => l.length - (intOf i).toNat)
    case atStart => exact ⟨0, by omega, rfl, World.ownsRow_nil _ _ _ _, Hm2.out, HB2.out⟩
    case round =>
      obtain ⟨k, hk, rfl, ho, hm, hb⟩ := hrel
      obtain ⟨Ao, co, rfl, hck⟩ := cks_of hm ho
      have Ho := Lib.hid ho; have Hm := Lib.hid hm; have Hb := Lib.hid hb; have Hck := Lib.hid hck
      clear ho hm hb hck
      by_cases hlt : k < l.length
      · obtain ⟨b, ol, rfl, hbl, h1, h2, h3⟩ := HA.out k hlt
        have c1 := (Hb.out.cell (p := ⟨b, ol + k * 3, none⟩) hbl).trans h1
        have c2 := (Hb.out.cell (p := ⟨b, ol + k * 3 + 1, none⟩) hbl).trans h2
        have c3 := (Hb.out.cell (p := ⟨b, ol + k * 3 + 2, none⟩) hbl).trans h3
        clear h1 h2 h3
        have Hev := Lib.hid (Hgood.out k hlt)
        obtain ⟨p, hp⟩ : ∃ p, p = k * m := ⟨_, rfl⟩
        have hpN : p + m ≤ N := by rw [hp, HNN.out, Nat.mul_comm m]; exact mul_le_row hlt
        have q2 : (k : Int) * (m : Int) = (p : Int) := by rw [hp]; simp
        have q3 : ((k : Int) + 1) * (m : Int) = (p : Int) + m := by rw [Int.add_mul, q2]; simp
        have Hp := Lib.hid hp
        have hlm : ¬ p + m = p := by omega
        clear hp
        have Hst : Hid (∀ cur W W', W.heap[g]? = some (.cells cur 3 (0, 0)) → (∀ i, i < k → ∀ t, t < m → cur[i * m + t]? = some (.int .i64 (clk l i t : Nat))) → (∀ j, k * m ≤ j → j < m * l.length → cur[j]? = some (.int .i64 0)) → RowM W W' g (k * m) m cur (fun t => nxt (l.take k) k (clk l) (ev l k) t) → Mem W' g m l.length (k + 1) l) := Lib.hid (fun cur W W' a b c d => mem_step a b c hlt d)
        rw [← Hp.out] at Hck Hst
        go_upto_region 9 with (fail)
        generalize hW : World.alloc _ _ = w3
        have Hb3 : Hid (Below wr.heap.size wr w3) := Lib.hid (by subst hW; exact below_alloc _ _)
        have Hx3 : Hid (w3.heap[wr.heap.size]? = some (.cells #[.int .i64 (ev l k).t, .int .i64 (ev l k).k, .int .i64 (ev l k).o] 50 (0, 0))) := Lib.hid (by subst hW; exact heap_alloc_new _ _)
        clear hW c1 c2 c3
        go_upto_region 10 with (fail)
        have T1 : Hid (∀ W, Below w3.heap.size w3 W → W.cell? ⟨wr.heap.size, 0, none⟩ = some (.int .i64 (ev l k).t) ∧ W.cell? ⟨wr.heap.size, 1, none⟩ = some (.int .i64 (ev l k).k) ∧ W.cell? ⟨wr.heap.size, 2, none⟩ = some (.int .i64 (ev l k).o)) := Lib.hid (fun W hW => by
          have hx := (hW.block _ (lt_blk Hx3.out)).trans Hx3.out
          exact ⟨by rw [cell_blk hx]; rfl, by rw [cell_blk hx]; rfl, by rw [cell_blk hx]; rfl⟩)
        have Hlt : Hid (k = (l.take k).length) := Lib.hid (by simp; omega)
        have Hzr : Hid (∀ t, t < m → p + t < m * l.length) := Lib.hid (fun t ht => by rw [← HNN.out]; omega)
        have Hkm : Hid (k ≤ 1000000) := Lib.hid (by omega)
        have Hgl : Hid (w.heap.size ≤ g) := Hg
        have g1 : (0 : Int) ≤ k := by omega
        have g2 : (k : Int) ≤ cap := by omega
        apply wp_region_relH (H := []) 6 [(Sum.inl _ : TT), (Sum.inl _ : TT), (Sum.inl _ : TT), (Sum.inl _ : TT), (Sum.inl _ : TT), (Sum.inl _ : TT)] (by kernel_rfl) (by kernel_rfl) (fun _ _ _ _ _ h => h) rfl
        simp only [List.take_succ_cons, List.take_zero, List.drop_succ_cons, List.drop_zero]
        iterate 6 (apply rel_isS; (intro W hW hf; obtain ⟨hx1, hx2, hx3⟩ := T1.out W hW; go_simp; first | exact ⟨StayS.refl _ _, rfl⟩ | rfl); simp only [Act.put, List.setIfInBounds_toArray, List.set_cons_succ, List.set_cons_zero])
        refine rel_endS ?_
        intro W hW hf
        try simp only [Act.put, List.setIfInBounds_toArray, List.set_cons_succ, List.set_cons_zero]
        have HW := Lib.hid (Hb3.out.trans (hW.mono Hb3.out.size))
        clear hf hW
        have HmW := Lib.hid (Hm.out.below HW.out)
        have HcW := Lib.hid (Hck.out.ext HW.out)
        have HoW := Lib.hid (own_below Ho.out HW.out)
        have HbW := Lib.hid (Hb.out.trans (HW.out.mono Hb.out.size))
        obtain ⟨cur, hgW, hm1, hm2⟩ := HmW.out
        have HgW := Lib.hid hgW; have Hm1 := Lib.hid hm1; have Hm2' := Lib.hid hm2
        clear hgW hm1 hm2
        have Hnx := Lib.hid (next_at (l.take k) k Hlt.out Hkm.out (ev l k) m (by omega) Hev.out (clk l) g p m cur Ao k co (Nat.le_refl _) (some ⟨b, ol, none⟩) cap w.heap.size W HgW.out (fun t ht => Hm2'.out _ (by rw [← Hp.out]; omega) (Hzr.out t ht)) HcW.out ((HA.out.below HbW.out).take k) Hgl.out)
        rw [ev_eta] at Hnx
        go_wp2_with fail
        with_reducible refine Hnx.out.mono ?_
        rintro e w4 ⟨rfl, hr4⟩
        have Hr4 := Lib.hid hr4
        clear hr4
        have Hm4 := Lib.hid (Hst.out cur W w4 HgW.out Hm1.out (by rw [Hp.out]; exact Hm2'.out) Hr4.out)
        have Ho4 := Lib.hid (own_kept_g HoW.out HgW.out (by decide) Hr4.out.grown)
        have HB4 : Hid (Below w.heap.size w w4) := Lib.hid (HbW.out.grown Hr4.out.grown HbW.out.size (by intro q e; injection e with e; have := Hg.out; omega))
        go_wp2_with (at_builtin; refine wpList_append_one0 EII rfl (.tmp 50) (.tmp 52) rfl w.heap.size (.slice (some ⟨g, p, none⟩) m m) rfl _ k (rowVs g m k) rfl Ho4.out rfl (by omega) (by omega) w (Nat.le_refl _) HB4.out ?_; intro v5 w5 h2 h3 h4 h5; clear h5; have O5 := Lib.hid h2; have HB5 := Lib.hid h3; have Hm5 := Lib.hid (Hm4.out.grown Ho4.out h4); clear h2 h3 h4)
        go_roundw
        case rel => exact ⟨k + 1, by omega, by go_num, by rw [rowVs_snoc]; have := O5.out; rw [Hp.out] at this; exact this, Hm5.out, HB5.out⟩
        case measure => simp [intOf]; omega
      · obtain rfl : k = l.length := by omega
        go_wp2_with fail
        go_ret2
        obtain ⟨cur, hg2, hc2, _⟩ := Hm.out
        exact ⟨Hb.out, .inr ⟨Hw.out, _, g, cur, rfl, Ho.out, Hg.out, hg2, hc2⟩⟩
  · have hn0 : ((wrongE l n : Nat) : Int) ≠ 0 := by omega
    have d0 : (((wrongE l n : Nat) : Int) != 0) = true := by rw [bne_iff_ne]; exact hn0
    have Hw := Lib.hid hw
    clear hw hn0
    generalize hwe : wrongE l n = we at *
    have Hwe := Lib.hid hwe
    clear hwe
    go_wp2_with fail
    go_ret2
    refine ⟨HB1.out, .inl ⟨?_, ?_⟩⟩
    · rw [Hwe.out]; exact Hw.out
    · rw [Hwe.out]; rfl
end Go.Proofs.Ytaalinhkikmfaaa
end

section
set_option linter.unusedSimpArgs false
set_option linter.unusedVariables false
namespace Go.Proofs.Ytaalinhkikmfaaa
open Go.RowKit

def tn (l : List Ev) (i : Nat) : Nat := (ev l i).t.toNat
/-- what clocks say of two events. -/
def aheadB (c : Nat → Nat → Nat) (l : List Ev) (i j : Nat) : Bool := decide (i < j) && decide (c i (tn l i) ≤ c j (tn l i))
set_option maxRecDepth 100000 in
set_option maxHeartbeats 4000000 in
theorem ahead_any (l : List Ev) (hl : l.length ≤ 1000000) (n : Nat) (hn : n ≤ 1000) (hgood : ∀ i, i < l.length → 0 ≤ (ev l i).t ∧ (ev l i).t < n) (c : Nat → Nat → Nat) (i j : Nat) (hi : i < l.length) (hj : j < l.length) (A Ac : Option Addr) (cl cc B Bc : Nat) (w : World)
    (hA : Evs w B A l) (hB : B ≤ w.heap.size) (hc : Clk w Bc Ac l.length n c) (hBc : Bc ≤ w.heap.size) :
    Calls Try.prog 51 #[.slice Ac l.length cc, .slice A l.length cl, .int .i64 i, .int .i64 j] w fun e w' => e = .returned (.tuple #[.bool (aheadB c l i j), .int .i64 0]) ∧ Below w.heap.size w w' := by
  obtain ⟨bc, oc, bi, oi, ci, rfl, hb1, hb2, hc1, hc2⟩ := hc i hi
  obtain ⟨_, _, bj, oj, cj, e, hb3, hb4, hc3, hc4⟩ := hc j hj
  injection e with e; injection e with e1 e2; subst e1 e2
  obtain ⟨bl, ol, rfl, hb5, hl1, _⟩ := hA i hi
  obtain ⟨_, _, e, _, hl2, _⟩ := hA j hj
  injection e with e; injection e with e1 e2; subst e1 e2
  obtain ⟨p, hp⟩ := Int.eq_ofNat_of_zero_le (hgood i hi).1
  obtain ⟨q, hq⟩ := Int.eq_ofNat_of_zero_le (hgood j hj).1
  have hpn : p < n := by have := (hgood i hi).2; omega
  have hqn : q < n := by have := (hgood j hj).2; omega
  rw [hp] at hl1
  rw [hq] at hl2
  have Hab : Hid (aheadB c l i j = (decide (i < j) && decide (c i p ≤ c j p))) := Lib.hid (by unfold aheadB tn; rw [hp]; rfl)
  have hi1 := hc2 p hpn
  have hj1 := hc4 p hpn
  clear hgood hc hA hp hq hc2 hc4
  obtain ⟨u, hu⟩ : ∃ u, u = c i p := ⟨_, rfl⟩
  obtain ⟨v, hv⟩ : ∃ v, v = c j p := ⟨_, rfl⟩
  rw [← hu] at hi1 Hab
  rw [← hv] at hj1 Hab
  clear hu hv
  have T : Hid (∀ W, Below w.heap.size w W → W.cell? ⟨bc, oc + i, none⟩ = some (.slice (some ⟨bi, oi, none⟩) n ci) ∧ W.cell? ⟨bc, oc + j, none⟩ = some (.slice (some ⟨bj, oj, none⟩) n cj) ∧ W.cell? ⟨bl, ol + i * 3, none⟩ = some (.int .i64 (p : Int)) ∧ W.cell? ⟨bl, ol + j * 3, none⟩ = some (.int .i64 (q : Int)) ∧
      W.cell? ⟨bi, oi + p, none⟩ = some (.int .i64 (u : Int)) ∧ W.cell? ⟨bj, oj + p, none⟩ = some (.int .i64 (v : Int))) := Lib.hid (fun W hW =>
    ⟨(hW.cell (p := ⟨bc, oc + i, none⟩) (World.block_lt_of_cell? _ _ hc1)).trans hc1, (hW.cell (p := ⟨bc, oc + j, none⟩) (World.block_lt_of_cell? _ _ hc3)).trans hc3, (hW.cell (p := ⟨bl, ol + i * 3, none⟩) (World.block_lt_of_cell? _ _ hl1)).trans hl1, (hW.cell (p := ⟨bl, ol + j * 3, none⟩) (World.block_lt_of_cell? _ _ hl2)).trans hl2,
      (hW.cell (p := ⟨bi, oi + p, none⟩) (World.block_lt_of_cell? _ _ hi1)).trans hi1, (hW.cell (p := ⟨bj, oj + p, none⟩) (World.block_lt_of_cell? _ _ hj1)).trans hj1⟩)
  clear hc1 hc3 hl1 hl2 hi1 hj1
  have g1 : (0 : Int) ≤ i := by omega
  have g2 : (i : Int) < l.length := by omega
  have g3 : (0 : Int) ≤ j := by omega
  have g4 : (j : Int) < l.length := by omega
  go_enter Try.func51, Try.ntmps51
  go_upto_region 3 with (fail)
  apply wp_region_relH (H := []) 10 [(Sum.inl _ : TT), (Sum.inl _ : TT), (Sum.inl _ : TT), (Sum.inl _ : TT), (Sum.inl _ : TT), (Sum.inl _ : TT), (Sum.inl _ : TT), (Sum.inl _ : TT), (Sum.inl _ : TT), (Sum.inl _ : TT)] (by kernel_rfl) (by kernel_rfl) (fun _ _ _ _ _ h => h) rfl
  simp only [List.take_succ_cons, List.take_zero, List.drop_succ_cons, List.drop_zero]
  iterate 10 (apply rel_isS; (intro W hW hf; obtain ⟨hx1, hx2, hx3, hx4, hx5, hx6⟩ := T.out W hW; go_simp; first | exact ⟨StayS.refl _ _, rfl⟩ | rfl); simp only [Act.put, List.setIfInBounds_toArray, List.set_cons_succ, List.set_cons_zero])
  refine rel_endS ?_
  intro W hW hf
  try simp only [Act.put, List.setIfInBounds_toArray, List.set_cons_succ, List.set_cons_zero]
  refine wpList_nil ?_
  have HW := Lib.hid hW
  clear hW hf
  go_wp2_with fail
  generalize hW2 : World.alloc _ _ = w2
  have Hb2 : Hid (Below w.heap.size w w2) := Lib.hid (by subst hW2; exact HW.out.trans ((below_alloc W _).mono HW.out.size))
  have Hx2 : Hid (w2.heap[W.heap.size]? = some (.cells #[.int .i64 (i : Int), .int .i64 (j : Int)] 3 (0, 0))) := Lib.hid (by subst hW2; exact heap_alloc_new _ _)
  clear hW2
  obtain ⟨x1, x2, x3, x4, x5, x6⟩ := T.out w2 Hb2.out
  have y1 : w2.cell? ⟨W.heap.size, 0, none⟩ = some (.int .i64 (i : Int)) := by rw [cell_blk Hx2.out]; rfl
  have y2 : w2.cell? ⟨W.heap.size, 1, none⟩ = some (.int .i64 (j : Int)) := by rw [cell_blk Hx2.out]; rfl
  go_loop [53] (fun kk => ∃ k : Nat, k ≤ 2 ∧ kk = .int .i64 k) (fun kk => 2 - (intOf kk).toNat)
  case atStart => exact ⟨0, by omega, rfl⟩
  case round =>
    obtain ⟨k, hk, rfl⟩ := hrel
    by_cases h2 : k < 2
    · have : k = 0 ∨ k = 1 := by omega
      rcases this with rfl | rfl
      · go_wp2_with fail
        go_round
        case rel => exact ⟨1, by omega, by go_num⟩
        case measure => simp [intOf]
      · go_wp2_with fail
        go_round
        case rel => exact ⟨2, by omega, by go_num⟩
        case measure => simp [intOf]
    · obtain rfl : k = 2 := by omega
      have T2 : Hid (∀ W, Below w2.heap.size w2 W → W.cell? ⟨bi, oi + p, none⟩ = some (.int .i64 (u : Int)) ∧ W.cell? ⟨bj, oj + p, none⟩ = some (.int .i64 (v : Int))) := Lib.hid (fun W hW => (T.out W (Hb2.out.trans (hW.mono Hb2.out.size))).2.2.2.2)
      by_cases hij : i < j
      · have d1 : decide ((i : Int) < j) = true := by rw [decide_eq_true_iff]; omega
        go_upto_region 12 with (fail)
        clear x1 x2 x3 x4 x5 x6 y1 y2
        have g5 : (0 : Int) ≤ p := by omega
        have g6 : (p : Int) < n := by omega
        apply wp_region_relH (H := []) 16 [(Sum.inl _ : TT), (Sum.inl _ : TT), (Sum.inl _ : TT), (Sum.inl _ : TT), (Sum.inl _ : TT), (Sum.inl _ : TT), (Sum.inl _ : TT), (Sum.inl _ : TT), (Sum.inl _ : TT), (Sum.inl _ : TT), (Sum.inl _ : TT), (Sum.inl _ : TT), (Sum.inl _ : TT), (Sum.inl _ : TT), (Sum.inl _ : TT), (Sum.inl _ : TT)] (by kernel_rfl) (by kernel_rfl) (fun _ _ _ _ _ h => h) rfl
        simp only [List.take_succ_cons, List.take_zero, List.drop_succ_cons, List.drop_zero]
        iterate 16 (apply rel_isS; (intro W hW hf; obtain ⟨hx1, hx2⟩ := T2.out W hW; go_simp; first | exact ⟨StayS.refl _ _, rfl⟩ | rfl); simp only [Act.put, List.setIfInBounds_toArray, List.set_cons_succ, List.set_cons_zero])
        refine rel_endS ?_
        intro W hW hf
        try simp only [Act.put, List.setIfInBounds_toArray, List.set_cons_succ, List.set_cons_zero]
        refine wpList_nil ?_
        have HW3 := Lib.hid (Hb2.out.trans (hW.mono Hb2.out.size))
        clear hW hf
        go_wp2_with fail
        go_ret2
        refine ⟨?_, HW3.out⟩
        rw [Hab.out, decide_eq_true hij]
        simp
      · have d1 : decide ((i : Int) < j) = false := by rw [decide_eq_false_iff_not]; omega
        go_upto_region 12 with (fail)
        clear x1 x2 x3 x4 x5 x6 y1 y2
        apply wp_region_relH (H := []) 16 [(Sum.inl _ : TT), (Sum.inl _ : TT), (Sum.inl _ : TT), (Sum.inl _ : TT), (Sum.inl _ : TT), (Sum.inl _ : TT), (Sum.inl _ : TT), (Sum.inl _ : TT), (Sum.inl _ : TT), (Sum.inl _ : TT), (Sum.inl _ : TT), (Sum.inl _ : TT), (Sum.inl _ : TT), (Sum.inl _ : TT), (Sum.inl _ : TT), (Sum.inl _ : TT)] (by kernel_rfl) (by kernel_rfl) (fun _ _ _ _ _ h => h) rfl
        simp only [List.take_succ_cons, List.take_zero, List.drop_succ_cons, List.drop_zero]
        iterate 16 (apply rel_isS; (intro W hW hf; go_simp; first | exact ⟨StayS.refl _ _, rfl⟩ | rfl); simp only [Act.put, List.setIfInBounds_toArray, List.set_cons_succ, List.set_cons_zero])
        refine rel_endS ?_
        intro W hW hf
        try simp only [Act.put, List.setIfInBounds_toArray, List.set_cons_succ, List.set_cons_zero]
        refine wpList_nil ?_
        have HW3 := Lib.hid (Hb2.out.trans (hW.mono Hb2.out.size))
        clear hW hf
        go_wp2_with fail
        go_ret2
        refine ⟨?_, HW3.out⟩
        rw [Hab.out, decide_eq_false hij]
        simp
end Go.Proofs.Ytaalinhkikmfaaa
end
